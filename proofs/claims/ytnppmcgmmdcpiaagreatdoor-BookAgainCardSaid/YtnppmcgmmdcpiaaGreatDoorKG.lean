import Derived.WalkKit
import Derived.Test.YtnppmcgmmdcpiaaGreatDoorT5
import Derived.BigRegionIn
import Derived.RegionIn
import Derived.TacticsInMore
import Derived.IntWalk
import Derived.RangeFuncCalls
import Derived.ChangeVars
import Derived.HandedShaped
import Derived.Test.YtnppmcgmmdcpiaaGreatDoorEngK
namespace Go.Proofs.YtnppmcgmmdcpiaaGreatDoor
open Go.Eng
set_option maxRecDepth 20000
/-! ### opening a text: the plain law, and strings.Lines -/
noncomputable def bopenF : Nat → Bo → List UInt8 → (Int × Int) ⊕ Bo
  | 0, x, _ => .inr x
  | k + 1, x, t => if Lib.indexByte t 10 < 0 then .inr x else
      if (bline x (t.take (Lib.indexByte t 10).toNat)).2 ≠ 0 then .inl ((x.n : Int) + 1, (bline x (t.take (Lib.indexByte t 10).toNat)).2)
      else bopenF k (bline x (t.take (Lib.indexByte t 10).toNat)).1 (t.drop ((Lib.indexByte t 10).toNat + 1))
theorem bopenF_nil (k : Nat) (x : Bo) : bopenF k x [] = .inr x := by
  cases k with
  | zero => rfl
  | succ k => unfold bopenF; rw [if_pos (by simp [Lib.indexByte])]
theorem bopenF_none {k : Nat} {x : Bo} {t : List UInt8} (h : Lib.indexByte t 10 < 0) : bopenF k x t = .inr x := by
  cases k with
  | zero => rfl
  | succ k => unfold bopenF; rw [if_pos h]
theorem bopenF_some {k : Nat} {x : Bo} {t : List UInt8} {i : Nat} (h : Lib.indexByte t 10 = i) : bopenF (k + 1) x t = if (bline x (t.take i)).2 ≠ 0 then .inl ((x.n : Int) + 1, (bline x (t.take i)).2) else bopenF k (bline x (t.take i)).1 (t.drop (i + 1)) := by
  conv => lhs; unfold bopenF
  rw [if_neg (by omega), h, Int.toNat_natCast]
/-- how lines are parted -/
theorem line_none {t : List UInt8} (h : Lib.indexByte t 10 < 0) : lineOf t = (t, []) ∧ 10 ∉ t := by
  refine ⟨by unfold lineOf; rw [if_pos h], idx_none ?_⟩
  have := Lib.indexByte_ge t 10
  omega
theorem line_some {t : List UInt8} {i : Nat} (h : Lib.indexByte t 10 = i) : lineOf t = (t.take i ++ [10], t.drop (i + 1)) := by
  obtain ⟨h1, h2, h3⟩ := idx_split h
  unfold lineOf
  rw [if_neg (by omega), h, Int.toNat_natCast, List.take_succ_eq_append_getElem h3]
  have : t[i] = 10 := by
    have := (Lib.indexByte_some h).1
    rw [List.getElem?_eq_getElem h3] at this
    exact Option.some.inj this
  rw [this]
theorem suf_no {l : List UInt8} (h : 10 ∉ l) : Lib.hasSuffix l [10] = false := by
  cases hs : Lib.hasSuffix l [10] with
  | false => rfl
  | true =>
    exfalso
    apply h
    have : [10] <:+ l := by simpa [Lib.hasSuffix] using hs
    exact this.subset (by simp)
theorem suf_yes (l : List UInt8) : Lib.hasSuffix (l ++ [10]) [10] = true := by simp [Lib.hasSuffix]
theorem suf_trim (l : List UInt8) : Lib.trimSuffix (l ++ [10]) [10] = l := by simp [Lib.trimSuffix, suf_yes]
theorem suf_trim_no {l : List UInt8} (h : 10 ∉ l) : Lib.trimSuffix l [10] = l := by simp [Lib.trimSuffix, suf_no h]
theorem cutsuf {l : List UInt8} (hl : l.length ≤ 1000000) (w : World) : Calls Tryz.prog 29 #[.string (bs l), .string ⟨#[10]⟩] w fun e w' => e = .returned (.tuple #[.string (bs (Lib.trimSuffix l [10])), .bool (Lib.hasSuffix l [10])]) ∧ w' = w := by
  have := Any.strings_CutSuffix slib_Lays_n104 (bs l) (bs [10]) w (by rw [bs_size]; omega)
  rw [bs_data, bs_data] at this
  exact this
theorem trimsuf {l : List UInt8} (hl : l.length ≤ 1000000) (w : World) : Calls Tryz.prog 44 #[.string (bs l), .string ⟨#[10]⟩] w fun e w' => e = .returned (.string (bs (Lib.trimSuffix l [10]))) ∧ w' = w := by
  have := Any.strings_TrimSuffix slib_Lays_n102 (bs l) (bs [10]) w (by rw [bs_size]; omega)
  rw [bs_data, bs_data] at this
  exact this
open Go.RowKit in
set_option maxRecDepth 100000 in
theorem lines_c {s : ByteArray} {own : List Ent} {ro : Addr → Option Value} {post : Value → H → Prop} (hk : ∀ r, post (.func (.func 50) #[] #[.pointer (some (Addr.mk r 0 none))]) ⟨own ++ [bxE r (.string s)], ro⟩) :
    SemCall Tryz.prog 28 #[.string s] ⟨own, ro⟩ post := by
  intro w hw
  go_enter Tryz.func28, Tryz.ntmps28
  go_wp2
  go_ret
  obtain ⟨h1, h2⟩ := new_holds hw [.string s] #[.string s] 9 (bxE w.heap.size (.string s)) rfl rfl rfl (List.prefix_refl _)
  exact ⟨_, _, rfl, h1, h2, hk _⟩
end Go.Proofs.YtnppmcgmmdcpiaaGreatDoor
namespace Go.Proofs.YtnppmcgmmdcpiaaGreatDoor
open Go.Eng
set_option maxRecDepth 20000
noncomputable def body14 : Code := rfB (blkB (seqR (seqL (restOf 4 (bodyOf Tryz.f14)))))
noncomputable def assign14 : Code := rfA (blkB (seqR (seqL (restOf 4 (bodyOf Tryz.f14)))))
noncomputable def r6_14 : Code := seqL (seqL (restOf 4 (bodyOf Tryz.f14)))
noncomputable def tail14 : Code := restOf 5 (bodyOf Tryz.f14)
theorem mid14_code : restOf 4 (bodyOf Tryz.f14) = (r6_14.seq (Code.block 0 (Code.rangeFunc (.tmp 27) #[28] assign14 body14))).seq tail14 := by kernel_rfl
/-- the rows of what is told, and of the book's place -/
def cells14 (r4 r5 r6 r7 r : Nat) (n : Int) (e : Value) : List Ent := [bxE r4 (.pointer none), bxE r5 (.int .i64 n), bxE r6 e, bxE r7 (.pointer (some (Addr.mk r 0 none)))]
structure I14 (r4 r5 r6 r7 r : Nat) (C : List Ent) (ro0 : Addr → Option Value) (t0 : List UInt8) (x0 : Bo) (t : List UInt8) (own : List Ent) (ro : Addr → Option Value) : Prop where
  len : t.length ≤ 2000
  ex : ∃ s x k, own = cells14 r4 r5 r6 r7 r 0 .nilIface ++ (boL s ++ C) ∧ s.r = r ∧ BOO s x ro ∧ t.length ≤ k ∧ bopenF k x t = bopenF t0.length x0 t0
  m : ∀ a v, ro0 a = some v → ro a = some v
structure X14 (r4 r5 r6 r7 r : Nat) (C : List Ent) (ro0 : Addr → Option Value) (t0 : List UInt8) (x0 : Bo) (c : Code) (own : List Ent) (ro : Addr → Option Value) : Prop where
  m : ∀ a v, ro0 a = some v → ro a = some v
  ex : ∃ s, s.r = r ∧ ((∃ x, c = .exit 0 ∧ own = cells14 r4 r5 r6 r7 r 0 .nilIface ++ (boL s ++ C) ∧ BOO s x ro ∧ bopenF t0.length x0 t0 = .inr x) ∨
    (∃ at' e, c = .ret ∧ own = cells14 r4 r5 r6 r7 r at' (.iface 57 (.int .i64 e)) ++ (boL s ++ C) ∧ e ≠ 0 ∧ bopenF t0.length x0 t0 = .inl (at', e)))
open Go.RowKit in
set_option maxRecDepth 100000 in
set_option maxHeartbeats 1000000 in
theorem body14_c {r4 r5 r6 r7 r rb T : Nat} {C : List Ent} {ro0 : Addr → Option Value} {t0 t : List UInt8} {x0 : Bo} {f : F} {own : List Ent} {ro : Addr → Option Value} {W : World} (l : Nat) (hT : shE 4 T 20 ∈ C) (hTab : HasTab ro0) (hN : HasNum ro0) (hM : HasMax ro0)
    (hne : t ≠ []) (hi : I14 r4 r5 r6 r7 r C ro0 t0 x0 t own ro) (hw : Holds W ⟨bxE rb (.string (bs (lineOf t).2)) :: own, ro⟩) (line : List UInt8) (hline : line = (lineOf t).1) :
    body14.wpIn (Fence.wide.inRound l) 0 Tryz.prog (roundOut (I14 r4 r5 r6 r7 r C ro0 t0 x0) (X14 r4 r5 r6 r7 r C ro0 t0 x0) rb (lineOf t).2 W ⟨bxE rb (.string (bs (lineOf t).2)) :: own, ro⟩) { tmps := #[f 0, .string (bs t0), f 2, f 3, .pointer (some (Addr.mk r4 0 none)), .pointer (some (Addr.mk r5 0 none)), .pointer (some (Addr.mk r6 0 none)), .pointer (some (Addr.mk r7 0 none)), f 8, .string (bs line), f 10, f 11, f 12, f 13, f 14, f 15, f 16, f 17, f 18, f 19, f 20, f 21, f 22, f 23, f 24, f 25, .string (bs t0), .func (.func 50) #[] #[.pointer (some (Addr.mk rb 0 none))], .string (bs line), f 29, f 30, f 31, f 32, f 33, f 34, f 35, f 36, f 37, f 38, f 39, f 40, f 41, f 42, f 43, f 44, f 45, f 46, f 47, f 48, f 49, f 50, f 51, f 52], defers := [] } W := by
  obtain ⟨hlen, ⟨s, x, k, rfl, hsr, hb, htk, hbo⟩, hm⟩ := hi
  subst hsr
  by_cases hix : Lib.indexByte t 10 < 0
  · obtain ⟨e1, h10⟩ := line_none hix
    rw [e1] at hline hw ⊢
    simp only at hline hw ⊢
    subst hline
    have S := fun w' => (callsIn_wide (n := 0)).2 (cutsuf (l := line) (by omega) w')
    rw [suf_no h10, suf_trim_no h10] at S
    have fin : ∀ a', roundOut (I14 r4 r5 r6 r7 s.r C ro0 t0 x0) (X14 r4 r5 r6 r7 s.r C ro0 t0 x0) rb [] W ⟨bxE rb (.string (bs [])) :: (cells14 r4 r5 r6 r7 s.r 0 .nilIface ++ (boL s ++ C)), ro⟩ (.exit 0) a' W := fun a' =>
      ⟨_, ro, ⟨hm, s, rfl, .inl ⟨x, rfl, rfl, hb, by rw [← hbo, bopenF_none hix]⟩⟩, hw, Fr.refl _ _⟩
    clear hw hb hbo hm hN hTab hM hT
    generalize roundOut (I14 r4 r5 r6 r7 s.r C ro0 t0 x0) (X14 r4 r5 r6 r7 s.r C ro0 t0 x0) rb [] W ⟨bxE rb (.string (bs [])) :: (cells14 r4 r5 r6 r7 s.r 0 .nilIface ++ (boL s ++ C)), ro⟩ = Q at fin
    simp only [body14, rfB, blkB, seqL, seqR, restOf, bodyOf, Tryz.f14, Option.getD_some]
    gi_wp2_with (first | (refine ⟨trivial, rfl, ?_⟩; gi_at_call 29; refine (CallsIn.inRound l (S _)).mono ?_; rintro e w' ⟨rfl, hww⟩; rw [hww]; clear hww w') | (rw [Oper.semAt_some _ _ _ (fun c h => by cases h)]; go_simp; try go_bits))
    exact fin _
  · obtain ⟨i, hi⟩ : ∃ i : Nat, Lib.indexByte t 10 = i := ⟨(Lib.indexByte t 10).toNat, by omega⟩
    have e1 := line_some hi
    rw [e1] at hline hw ⊢
    simp only at hline hw ⊢
    subst hline
    have hil := (idx_split hi).2.2
    obtain ⟨k, rfl⟩ : ∃ k', k = k' + 1 := ⟨k - 1, by have := List.length_pos_iff.2 hne; omega⟩
    rw [bopenF_some hi] at hbo
    have S := fun w' => (callsIn_wide (n := 0)).2 (cutsuf (l := t.take i ++ [10]) (by simp; omega) w')
    rw [suf_yes, suf_trim] at S
    have hn60 := hb.n60
    -- the book's place, and how many lines it has
    have c7 := (bx_cell (A := bxE rb (.string (bs (t.drop (i + 1)))) :: [bxE r4 (.pointer none), bxE r5 (.int .i64 0), bxE r6 .nilIface]) (C := boL s ++ C) hw).1
    have cn := rd_sound hw (bo_rd (s := s) (own := bxE rb (.string (bs (t.drop (i + 1)))) :: (cells14 r4 r5 r6 r7 s.r 0 .nilIface ++ (boL s ++ C))) (ro := ro) (by simp [boL]) 5 rfl)
    rw [hb.n] at cn
    have hS := line_c (s := s) (x := x) (l := t.take i) (by simp; omega) (own := bxE rb (.string (bs (t.drop (i + 1)))) :: (cells14 r4 r5 r6 r7 s.r 0 .nilIface ++ (boL s ++ C))) (ro := ro) (T := T)
      (post := fun v h => ∃ s' ro', (∀ a v, ro a = some v → ro' a = some v) ∧ BOO s' (bline x (t.take i)).1 ro' ∧ s'.r = s.r ∧ v = errV (eno 57 (bline x (t.take i)).2) ∧ h = (⟨(bxE rb (.string (bs (t.drop (i + 1)))) :: cells14 r4 r5 r6 r7 s.r 0 .nilIface) ++ (boL s' ++ C), ro'⟩ : H))
      (bxE rb (.string (bs (t.drop (i + 1)))) :: cells14 r4 r5 r6 r7 s.r 0 .nilIface) C rfl (by simp [hT]) (hTab.up hm) (hN.up hm) (hM.up hm) hb (fun s' ro' m h' hr => ⟨s', ro', m, h', hr, rfl, rfl⟩) W hw
    have S2 := (callsIn_wide (n := 0)).2 hS
    have hwr : IntKind.i64.wrap ((x.n : Int) + 1) = (x.n : Int) + 1 := IntWalk.i64_in _ (by omega)
    simp only [body14, rfB, blkB, seqL, seqR, restOf, bodyOf, Tryz.f14, Option.getD_some]
    gi_wp2_with (first | (refine ⟨trivial, rfl, ?_⟩; gi_at_call 29; refine (CallsIn.inRound l (S _)).mono ?_; rintro e w' ⟨rfl, hww⟩; rw [hww]; clear hww w') | (refine ⟨trivial, rfl, ?_⟩; gi_at_call 30; refine (CallsIn.inRound l S2).mono ?_; rintro e w2 ⟨v, h', rfl, hh2, hf2, s', ro', m', hb', hr', rfl, rfl⟩; refine Hid.out ?_) | (rw [Oper.semAt_some _ _ _ (fun c h => by cases h)]; go_simp; try go_bits))
    refine Lib.hid ?_
    have hh2 : Holds w2 ⟨bxE rb (.string (bs (t.drop (i + 1)))) :: (cells14 r4 r5 r6 r7 s.r 0 .nilIface ++ (boL s' ++ C)), ro'⟩ := hh2
    have hf2 : Fr W w2 ⟨bxE rb (.string (bs (t.drop (i + 1)))) :: (cells14 r4 r5 r6 r7 s.r 0 .nilIface ++ (boL s ++ C)), ro⟩ ⟨bxE rb (.string (bs (t.drop (i + 1)))) :: (cells14 r4 r5 r6 r7 s.r 0 .nilIface ++ (boL s' ++ C)), ro'⟩ := hf2
    clear S S2 hS hw c7 cn
    have hm2 : ∀ a v, ro0 a = some v → ro' a = some v := fun a v h => m' a v (hm a v h)
    obtain ⟨x', e', hbe⟩ : ∃ x' e', bline x (t.take i) = (x', e') := ⟨_, _, rfl⟩
    rw [hbe] at hbo hb'
    rw [hbe]
    simp only at hbo hb' ⊢
    by_cases he : e' = 0
    · subst he
      rw [if_neg (by simp)] at hbo
      have fin : ∀ a', roundOut (I14 r4 r5 r6 r7 s.r C ro0 t0 x0) (X14 r4 r5 r6 r7 s.r C ro0 t0 x0) rb (t.drop (i + 1)) W ⟨bxE rb (.string (bs (t.drop (i + 1)))) :: (cells14 r4 r5 r6 r7 s.r 0 .nilIface ++ (boL s ++ C)), ro⟩ .normal a' w2 := fun a' =>
        ⟨_, ro', ⟨by simp; omega, ⟨s', x', k, rfl, hr', hb', by simp; omega, hbo⟩, hm2⟩, hh2, hf2⟩
      rw [show errV (eno 57 0) = .nilIface from rfl]
      gi_wp2_with (rw [Oper.semAt_some _ _ _ (fun c h => by cases h)]; go_simp; try go_bits)
      exact fin _
    · rw [if_pos he] at hbo
      rw [eno_ne he]
      obtain ⟨b1, f1, _⟩ := bx_set (A := [bxE rb (.string (bs (t.drop (i + 1))))]) (r := r4) (v := .pointer none) (C := [bxE r5 (.int .i64 0), bxE r6 .nilIface, bxE r7 (.pointer (some (Addr.mk s.r 0 none)))] ++ (boL s' ++ C)) (.pointer none) hh2
      obtain ⟨b2, f2, _⟩ := bx_set (A := [bxE rb (.string (bs (t.drop (i + 1)))), bxE r4 (.pointer none)]) (r := r5) (v := .int .i64 0) (C := [bxE r6 .nilIface, bxE r7 (.pointer (some (Addr.mk s.r 0 none)))] ++ (boL s' ++ C)) (.int .i64 ((x.n : Int) + 1)) b1
      obtain ⟨b3, f3, _⟩ := bx_set (A := [bxE rb (.string (bs (t.drop (i + 1)))), bxE r4 (.pointer none), bxE r5 (.int .i64 ((x.n : Int) + 1))]) (r := r6) (v := .nilIface) (C := [bxE r7 (.pointer (some (Addr.mk s.r 0 none)))] ++ (boL s' ++ C)) (.iface 57 (.int .i64 e')) b2
      have k1 := bx_cell (A := [bxE rb (.string (bs (t.drop (i + 1))))]) (r := r4) (v := .pointer none) (C := [bxE r5 (.int .i64 0), bxE r6 .nilIface, bxE r7 (.pointer (some (Addr.mk s.r 0 none)))] ++ (boL s' ++ C)) hh2
      have k2 := bx_cell (A := [bxE rb (.string (bs (t.drop (i + 1)))), bxE r4 (.pointer none)]) (r := r5) (v := .int .i64 0) (C := [bxE r6 .nilIface, bxE r7 (.pointer (some (Addr.mk s.r 0 none)))] ++ (boL s' ++ C)) b1
      have k3 := bx_cell (A := [bxE rb (.string (bs (t.drop (i + 1)))), bxE r4 (.pointer none), bxE r5 (.int .i64 ((x.n : Int) + 1))]) (r := r6) (v := .nilIface) (C := [bxE r7 (.pointer (some (Addr.mk s.r 0 none)))] ++ (boL s' ++ C)) b2
      obtain ⟨k1, q1⟩ := k1
      obtain ⟨k2, q2⟩ := k2
      obtain ⟨k3, q3⟩ := k3
      have fin : ∀ a', roundOut (I14 r4 r5 r6 r7 s.r C ro0 t0 x0) (X14 r4 r5 r6 r7 s.r C ro0 t0 x0) rb (t.drop (i + 1)) W ⟨bxE rb (.string (bs (t.drop (i + 1)))) :: (cells14 r4 r5 r6 r7 s.r 0 .nilIface ++ (boL s ++ C)), ro⟩ .ret a' (((w2.setCell ⟨r4, 0, none⟩ (.pointer none)).setCell ⟨r5, 0, none⟩ (.int .i64 ((x.n : Int) + 1))).setCell ⟨r6, 0, none⟩ (.iface 57 (.int .i64 e'))) := fun a' =>
        ⟨cells14 r4 r5 r6 r7 s.r ((x.n : Int) + 1) (.iface 57 (.int .i64 e')) ++ (boL s' ++ C), ro', ⟨hm2, s', hr', .inr ⟨_, _, rfl, rfl, he, hbo.symm⟩⟩, b3, hf2.trans (f1.trans (f2.trans f3))⟩
      clear b1 b2 b3 f1 f2 f3 hh2 hf2
      gi_wp2_with (rw [Oper.semAt_some _ _ _ (fun c h => by cases h)]; go_simp; try go_bits)
      exact fin _

end Go.Proofs.YtnppmcgmmdcpiaaGreatDoor
namespace Go.Proofs.YtnppmcgmmdcpiaaGreatDoor
open Go.Eng
set_option maxRecDepth 20000
open Go.RowKit in
set_option maxRecDepth 100000 in
set_option maxHeartbeats 1000000 in
theorem tail14_c {r4 r5 r6 r7 rb D : Nat} {C : List Ent} {t0 rest : List UInt8} {f : F} {s : BkS} {x : Bo} {ro : Addr → Option Value} {w W : World} {h0 : H} {post : Value → H → Prop} (hb : BOO s x ro) (hw : Holds W ⟨bxE rb (.string (bs rest)) :: (cells14 r4 r5 r6 r7 s.r 0 .nilIface ++ (boL s ++ C)), ro⟩)
    (hf : Fr w W h0 ⟨bxE rb (.string (bs rest)) :: (cells14 r4 r5 r6 r7 s.r 0 .nilIface ++ (boL s ++ C)), ro⟩) (hD : W.heap[D]? = some (.deferred (some []))) (hwD : w.heap.size ≤ D) (hne : ∀ e ∈ bxE rb (.string (bs rest)) :: (cells14 r4 r5 r6 r7 s.r 0 .nilIface ++ (boL s ++ C)), e.id ≠ some D)
    (hk : VRet ⟨boL s ++ C, ro⟩ (.tuple (List.toArray [.pointer (some (Addr.mk s.r 0 none)), .int .i64 (x.n : Int), .nilIface])) post) :
    tail14.wpIn Fence.wide 0 Tryz.prog (bodyPostM Fence.wide 0 Tryz.prog Tryz.f14 (semEnd h0 w post)) { tmps := #[f 0, .string (bs t0), f 2, f 3, .pointer (some (Addr.mk r4 0 none)), .pointer (some (Addr.mk r5 0 none)), .pointer (some (Addr.mk r6 0 none)), .pointer (some (Addr.mk r7 0 none)), f 8, f 9, f 10, f 11, f 12, f 13, f 14, f 15, f 16, f 17, f 18, f 19, f 20, f 21, f 22, f 23, f 24, f 25, .string (bs t0), .func (.func 50) #[] #[.pointer (some (Addr.mk rb 0 none))], f 28, f 29, f 30, f 31, f 32, f 33, f 34, f 35, f 36, f 37, f 38, f 39, f 40, f 41, f 42, f 43, f 44, f 45, f 46, f 47, f 48, f 49, f 50, f 51, f 52], defers := [markD D] } W := by
  obtain ⟨b1, f1, g1⟩ := bx_set (A := [bxE rb (.string (bs rest))]) (r := r4) (v := .pointer none) (C := [bxE r5 (.int .i64 0), bxE r6 .nilIface, bxE r7 (.pointer (some (Addr.mk s.r 0 none)))] ++ (boL s ++ C)) (.pointer (some (Addr.mk s.r 0 none))) hw
  obtain ⟨b2, f2, g2⟩ := bx_set (A := [bxE rb (.string (bs rest)), bxE r4 (.pointer (some (Addr.mk s.r 0 none)))]) (r := r5) (v := .int .i64 0) (C := [bxE r6 .nilIface, bxE r7 (.pointer (some (Addr.mk s.r 0 none)))] ++ (boL s ++ C)) (.int .i64 (x.n : Int)) b1
  obtain ⟨b3, f3, g3⟩ := bx_set (A := [bxE rb (.string (bs rest)), bxE r4 (.pointer (some (Addr.mk s.r 0 none))), bxE r5 (.int .i64 (x.n : Int))]) (r := r6) (v := .nilIface) (C := [bxE r7 (.pointer (some (Addr.mk s.r 0 none)))] ++ (boL s ++ C)) .nilIface b2
  obtain ⟨k1, q1⟩ := bx_cell (A := [bxE rb (.string (bs rest))]) (r := r4) (v := .pointer none) (C := [bxE r5 (.int .i64 0), bxE r6 .nilIface, bxE r7 (.pointer (some (Addr.mk s.r 0 none)))] ++ (boL s ++ C)) hw
  obtain ⟨k2, q2⟩ := bx_cell (A := [bxE rb (.string (bs rest)), bxE r4 (.pointer (some (Addr.mk s.r 0 none)))]) (r := r5) (v := .int .i64 0) (C := [bxE r6 .nilIface, bxE r7 (.pointer (some (Addr.mk s.r 0 none)))] ++ (boL s ++ C)) b1
  obtain ⟨k3, q3⟩ := bx_cell (A := [bxE rb (.string (bs rest)), bxE r4 (.pointer (some (Addr.mk s.r 0 none))), bxE r5 (.int .i64 (x.n : Int))]) (r := r6) (v := .nilIface) (C := [bxE r7 (.pointer (some (Addr.mk s.r 0 none)))] ++ (boL s ++ C)) b2
  have c7 := (bx_cell (A := bxE rb (.string (bs rest)) :: [bxE r4 (.pointer none), bxE r5 (.int .i64 0), bxE r6 .nilIface]) (C := boL s ++ C) hw).1
  have d7 := (bx_cell (A := bxE rb (.string (bs rest)) :: [bxE r4 (.pointer (some (Addr.mk s.r 0 none))), bxE r5 (.int .i64 0), bxE r6 .nilIface]) (C := boL s ++ C) b1).1
  have cn := rd_sound hw (bo_rd (s := s) (own := bxE rb (.string (bs rest)) :: (cells14 r4 r5 r6 r7 s.r 0 .nilIface ++ (boL s ++ C))) (ro := ro) (by simp [boL]) 5 rfl)
  have dn := rd_sound b1 (bo_rd (s := s) (ro := ro) (by simp [boL]) 5 rfl)
  rw [hb.n] at cn dn
  have l1 := rd_sound b3 (rd_bx (r := r4) (v := .pointer (some (Addr.mk s.r 0 none))) (by simp))
  have l2 := rd_sound b3 (rd_bx (r := r5) (v := .int .i64 (x.n : Int)) (by simp))
  have l3 := rd_sound b3 (rd_bx (r := r6) (v := .nilIface) (by simp))
  have hD3 : (((W.setCell ⟨r4, 0, none⟩ (.pointer (some (Addr.mk s.r 0 none)))).setCell ⟨r5, 0, none⟩ (.int .i64 (x.n : Int))).setCell ⟨r6, 0, none⟩ .nilIface).heap[D]? = some (.deferred (some [])) := by
    rw [g3 D (fun e => hne (bxE r6 .nilIface) (by simp [cells14]) (by rw [e]; rfl)), g2 D (fun e => hne (bxE r5 (.int .i64 0)) (by simp [cells14]) (by rw [e]; rfl)), g1 D (fun e => hne (bxE r4 (.pointer none)) (by simp [cells14]) (by rw [e]; rfl))]
    exact hD
  have fin : ∀ (a' : Act), a'.defers = [markD D] → a'.tmps.getD 4 undef = .pointer (some (Addr.mk r4 0 none)) → a'.tmps.getD 5 undef = .pointer (some (Addr.mk r5 0 none)) → a'.tmps.getD 6 undef = .pointer (some (Addr.mk r6 0 none)) →
      bodyPostM Fence.wide 0 Tryz.prog Tryz.f14 (semEnd h0 w post) .ret a' (((W.setCell ⟨r4, 0, none⟩ (.pointer (some (Addr.mk s.r 0 none)))).setCell ⟨r5, 0, none⟩ (.int .i64 (x.n : Int))).setCell ⟨r6, 0, none⟩ .nilIface).drew := by
    intro a' hd e4 e5 e6
    refine ret_mark (D := D) (f' := fun t => a'.tmps.getD t undef) (fun _ => rfl) (drew_holds b3) ((hf.trans (f1.trans (f2.trans f3))).trans (drew_fr _ _)) hd hD3 hwD ?_ ?_
    · intro e he
      simp only [List.cons_append, List.nil_append, List.mem_cons] at he
      rcases he with rfl | rfl | rfl | rfl | rfl | he
      · exact hne (bxE rb (.string (bs rest))) (by simp)
      · exact hne (bxE r4 (.pointer none)) (by simp [cells14])
      · exact hne (bxE r5 (.int .i64 0)) (by simp [cells14])
      · exact hne (bxE r6 .nilIface) (by simp [cells14])
      · exact hne (bxE r7 (.pointer (some (Addr.mk s.r 0 none)))) (by simp [cells14])
      · exact hne e (by simp only [List.mem_cons, List.mem_append]; exact .inr (.inr (by simpa using he)))
    · have := (r14_eq (fun t => a'.tmps.getD t undef) (Addr.mk r4 0 none) (Addr.mk r5 0 none) (Addr.mk r6 0 none) ⟨bxE rb (.string (bs rest)) :: bxE r4 (.pointer (some (Addr.mk s.r 0 none))) :: bxE r5 (.int .i64 (x.n : Int)) :: bxE r6 .nilIface :: bxE r7 (.pointer (some (Addr.mk s.r 0 none))) :: (boL s ++ C), ro⟩ post).mpr
        ⟨some (Addr.mk s.r 0 none), by rw [Addr.add_zero']; exact rd_bx (by simp), (x.n : Int), by rw [Addr.add_zero']; exact rd_bx (by simp), none, by rw [Addr.add_zero']; exact rd_bx (v := .nilIface) (by simp), hk.choose, (Gh.drop (own' := boL s ++ C) (List.Sublist.cons _ (List.Sublist.cons _ (List.Sublist.cons _ (List.Sublist.cons _ (List.Sublist.cons _ (List.Sublist.refl _))))))).trans hk.choose_spec.1, hk.choose_spec.2⟩
      rw [upd_self (f := fun t => a'.tmps.getD t undef) e4, upd_self (f := fun t => a'.tmps.getD t undef) e5, upd_self (f := fun t => a'.tmps.getD t undef) e6] at this
      exact this
  clear b1 b2 b3 f1 f2 f3 g1 g2 g3 hw hf hD3 hk hne hb
  generalize bodyPostM Fence.wide 0 Tryz.prog Tryz.f14 (semEnd h0 w post) = Q at fin ⊢
  simp only [tail14, restOf, bodyOf, Tryz.f14, Option.getD_some]
  gi_wp2
  gi_region
  all_goals (gi_wp2; exact fin _ rfl rfl rfl rfl)
end Go.Proofs.YtnppmcgmmdcpiaaGreatDoor
namespace Go.Proofs.YtnppmcgmmdcpiaaGreatDoor
open Go.Eng
set_option maxRecDepth 20000
open Go.RowKit in
set_option maxRecDepth 100000 in
set_option maxHeartbeats 1000000 in
theorem mid14 {r4 r5 r6 r7 T : Nat} {C : List Ent} {t0 : List UInt8} {f : F} {s : BkS} {x : Bo} {ro : Addr → Option Value} {w W : World} {a : Act} {h0 : H} {post : Value → H → Prop} (hT : shE 4 T 20 ∈ C) (hTab : HasTab ro) (hN : HasNum ro) (hM : HasMax ro) (hb : BOO s x ro) (ht : t0.length ≤ 2000)
    (hi : Inv 53 w h0 f ⟨cells14 r4 r5 r6 r7 s.r 0 .nilIface ++ (boL s ++ C), ro⟩ a W) (f1 : f 1 = .string (bs t0)) (f4 : f 4 = .pointer (some (Addr.mk r4 0 none))) (f5 : f 5 = .pointer (some (Addr.mk r5 0 none))) (f6 : f 6 = .pointer (some (Addr.mk r6 0 none))) (f7 : f 7 = .pointer (some (Addr.mk r7 0 none)))
    (hE : ∀ at' e ro', bopenF t0.length x t0 = .inl (at', e) → e ≠ 0 → (∀ a v, ro a = some v → ro' a = some v) → post (.tuple (List.toArray [.pointer none, .int .i64 at', .iface 57 (.int .i64 e)])) ⟨C, ro'⟩)
    (hS : ∀ x' s' ro', bopenF t0.length x t0 = .inr x' → (∀ a v, ro a = some v → ro' a = some v) → BOO s' x' ro' → s'.r = s.r → VRet ⟨boL s' ++ C, ro'⟩ (.tuple (List.toArray [.pointer (some (Addr.mk s'.r 0 none)), .int .i64 (x'.n : Int), .nilIface])) post) :
    (restOf 4 (bodyOf Tryz.f14)).wpIn Fence.wide 0 Tryz.prog (bodyPostM Fence.wide 0 Tryz.prog Tryz.f14 (semEnd h0 w post)) a W := by
  obtain ⟨c14, hc14⟩ : ∃ c, tail14 = c := ⟨_, rfl⟩
  rw [mid14_code, rel_lit hi.rel, hc14]
  have e : ((List.range 53).map f).toArray = #[f 0, .string (bs t0), f 2, f 3, .pointer (some (Addr.mk r4 0 none)), .pointer (some (Addr.mk r5 0 none)), .pointer (some (Addr.mk r6 0 none)), .pointer (some (Addr.mk r7 0 none)), f 8, f 9, f 10, f 11, f 12, f 13, f 14, f 15, f 16, f 17, f 18, f 19, f 20, f 21, f 22, f 23, f 24, f 25, f 26, f 27, f 28, f 29, f 30, f 31, f 32, f 33, f 34, f 35, f 36, f 37, f 38, f 39, f 40, f 41, f 42, f 43, f 44, f 45, f 46, f 47, f 48, f 49, f 50, f 51, f 52] := by
    rw [← f1, ← f4, ← f5, ← f6, ← f7]; rfl
  rw [e]
  have hh := hi.holds
  have hfr := hi.fr
  clear e hi f1 f4 f5 f6 f7
  have hLn := (callsIn_wide (n := 0)).2 (lines_c (s := bs t0) (own := cells14 r4 r5 r6 r7 s.r 0 .nilIface ++ (boL s ++ C)) (ro := ro)
    (post := fun v h => ∃ rb, v = .func (.func 50) #[] #[.pointer (some (Addr.mk rb 0 none))] ∧ h = (⟨(cells14 r4 r5 r6 r7 s.r 0 .nilIface ++ (boL s ++ C)) ++ [bxE rb (.string (bs t0))], ro⟩ : H)) (fun r => ⟨r, rfl, rfl⟩) W hh)
  generalize hQ : bodyPostM Fence.wide 0 Tryz.prog Tryz.f14 (semEnd h0 w post) = Qf
  simp only [r6_14, seqL, restOf, bodyOf, Tryz.f14, Option.getD_some]
  gi_wp2_with (refine ⟨trivial, rfl, ?_⟩; gi_at_call 28; refine hLn.mono ?_; rintro e w3 ⟨v, h', rfl, hh3, hf3, rb, rfl, rfl⟩; refine Hid.out ?_)
  refine Lib.hid ?_
  have gp : Gh ⟨(cells14 r4 r5 r6 r7 s.r 0 .nilIface ++ (boL s ++ C)) ++ [bxE rb (.string (bs t0))], ro⟩ ⟨bxE rb (.string (bs t0)) :: (cells14 r4 r5 r6 r7 s.r 0 .nilIface ++ (boL s ++ C)), ro⟩ := Gh.perm (List.perm_append_comm (l₁ := [bxE rb (.string (bs t0))]) (l₂ := cells14 r4 r5 r6 r7 s.r 0 .nilIface ++ (boL s ++ C)))
  have hh4 := gp.holds _ hh3
  have hf4 := (hfr.trans hf3).trans (gp.fr _)
  clear hh3 hf3 gp hLn hh hfr
  gi_wp2
  refine range_lines (p := 28) (Bs := rb) (t0 := t0) (wb := w) (hb := h0) rfl (I14 r4 r5 r6 r7 s.r C ro t0 x) (X14 r4 r5 r6 r7 s.r C ro t0 x) (fun t own ro' h => Nat.le_trans h.len (by decide)) ⟨ht, ⟨s, x, t0.length, rfl, rfl, hb, Nat.le_refl _, rfl⟩, fun _ _ h => h⟩ hh4 hf4
    (fun line => { tmps := #[f 0, .string (bs t0), f 2, f 3, .pointer (some (Addr.mk r4 0 none)), .pointer (some (Addr.mk r5 0 none)), .pointer (some (Addr.mk r6 0 none)), .pointer (some (Addr.mk r7 0 none)), f 8, .string (bs line), f 10, f 11, f 12, f 13, f 14, f 15, f 16, f 17, f 18, f 19, f 20, f 21, f 22, f 23, f 24, f 25, .string (bs t0), .func (.func 50) #[] #[.pointer (some (Addr.mk rb 0 none))], .string (bs line), f 29, f 30, f 31, f 32, f 33, f 34, f 35, f 36, f 37, f 38, f 39, f 40, f 41, f 42, f 43, f 44, f 45, f 46, f 47, f 48, f 49, f 50, f 51, f 52], defers := [] }) ?_ ?_ ?_ ?_
  · intro l line W' K hK
    simp only [assign14, rfA, blkB, seqL, seqR, restOf, bodyOf, Tryz.f14, Option.getD_some]
    gi_wp2_with (rw [Oper.semAt_some _ _ _ (fun c h => by cases h)]; go_simp; try go_bits)
    exact hK
  · intro l t own ro' W' hne hi hw'
    exact body14_c l hT hTab hN hM hne hi hw' _ rfl
  · rintro own ro' W' D ⟨hlen, ⟨s', x', k, rfl, hr', hb', hk', hbo⟩, hm⟩ hw' hf' hD hwD hne
    rw [bopenF_nil] at hbo
    have hp := hS x' s' ro' hbo.symm hm hb' hr'
    have := tail14_c (f := f) (t0 := t0) (r4 := r4) (r5 := r5) (r6 := r6) (r7 := r7) (rest := []) hb' (by rw [hr']; exact hw') (by rw [hr']; exact hf') hD hwD (by rw [hr']; exact hne) hp
    rw [hQ, hc14] at this
    gi_wp2
  · rintro c rest own ro' W' D ⟨hm, s', hr', hx⟩ hw' hf' hD hwD hne
    rcases hx with ⟨x', rfl, rfl, hb', hbo⟩ | ⟨at', e, rfl, rfl, he, hbo⟩
    · have hp := hS x' s' ro' hbo hm hb' hr'
      have := tail14_c (f := f) (t0 := t0) (r4 := r4) (r5 := r5) (r6 := r6) (r7 := r7) (rest := rest) hb' (by rw [hr']; exact hw') (by rw [hr']; exact hf') hD hwD (by rw [hr']; exact hne) hp
      rw [hQ, hc14] at this
      gi_wp2
    · gi_wp2
      rw [← hQ]
      obtain ⟨arr, harr⟩ : ∃ arr : Array Value, arr = #[f 0, .string (bs t0), f 2, f 3, .pointer (some (Addr.mk r4 0 none)), .pointer (some (Addr.mk r5 0 none)), .pointer (some (Addr.mk r6 0 none)), .pointer (some (Addr.mk r7 0 none)), f 8, f 9, f 10, f 11, f 12, f 13, f 14, f 15, f 16, f 17, f 18, f 19, f 20, f 21, f 22, f 23, f 24, f 25, .string (bs t0), .func (.func 50) #[] #[.pointer (some (Addr.mk rb 0 none))], f 28, f 29, f 30, f 31, f 32, f 33, f 34, f 35, f 36, f 37, f 38, f 39, f 40, f 41, f 42, f 43, f 44, f 45, f 46, f 47, f 48, f 49, f 50, f 51, f 52] := ⟨_, rfl⟩
      have e4 : arr.getD 4 undef = .pointer (some (Addr.mk r4 0 none)) := by rw [harr]; rfl
      have e5 : arr.getD 5 undef = .pointer (some (Addr.mk r5 0 none)) := by rw [harr]; rfl
      have e6 : arr.getD 6 undef = .pointer (some (Addr.mk r6 0 none)) := by rw [harr]; rfl
      rw [← harr]
      clear harr
      refine ret_mark (D := D) (f' := fun t => arr.getD t undef) (fun _ => rfl) hw' hf' rfl hD hwD hne ?_
      have := (r14_eq (fun t => arr.getD t undef) (Addr.mk r4 0 none) (Addr.mk r5 0 none) (Addr.mk r6 0 none) ⟨bxE rb (.string (bs rest)) :: (cells14 r4 r5 r6 r7 s.r at' (.iface 57 (.int .i64 e)) ++ (boL s' ++ C)), ro'⟩ post).mpr
        ⟨none, by rw [Addr.add_zero']; exact rd_bx (by simp [cells14]), at', by rw [Addr.add_zero']; exact rd_bx (by simp [cells14]), some (57, .int .i64 e), by rw [Addr.add_zero']; exact rd_bx (v := .iface 57 (.int .i64 e)) (by simp [cells14]), ⟨C, ro'⟩, Gh.drop (by
          refine List.Sublist.cons _ (List.Sublist.cons _ (List.Sublist.cons _ (List.Sublist.cons _ (List.Sublist.cons _ ?_))))
          exact List.sublist_append_right _ _), hE at' e ro' hbo he hm⟩
      rw [upd_self (f := fun t => arr.getD t undef) e4, upd_self (f := fun t => arr.getD t undef) e5, upd_self (f := fun t => arr.getD t undef) e6] at this
      exact this
end Go.Proofs.YtnppmcgmmdcpiaaGreatDoor
namespace Go.Proofs.YtnppmcgmmdcpiaaGreatDoor
open Go.Eng
set_option maxRecDepth 20000
/-! ### book.Open -/
theorem bk_row {r1 : Nat} {sf sc sh : SV} : (⟨some r1, [Value.slice sf.a sf.len sf.cap, .slice sc.a sc.len sc.cap, .slice sh.a sh.len sh.cap], List.length [Value.slice sf.a sf.len sf.cap, .slice sc.a sc.len sc.cap, .slice sh.a sh.len sh.cap]⟩ : Ent) = bkE r1 sf sc sh := rfl
theorem bx_row {r : Nat} {v : Value} : (⟨some r, [v], List.length [v]⟩ : Ent) = bxE r v := rfl
set_option maxHeartbeats 1000000 in
theorem open_c {b : Bk} {sf sc sh : SV} {t0 : List UInt8} {own : List Ent} {ro : Addr → Option Value} {post : Value → H → Prop} {T : Nat} (hT : shE 4 T 20 ∈ own) (hTab : HasTab ro) (hN : HasNum ro) (hM : HasMax ro) (hb : BkRd ⟨own, ro⟩ sf sc sh b)
    (h0 : bcheck b ≠ 0 → post (.tuple (List.toArray [.pointer none, .int .i64 0, errV (eno 57 (bcheck b))])) ⟨own, ro⟩)
    (h1 : BOk b → brow b = none → post (.tuple (List.toArray [.pointer none, .int .i64 0, errV (eno 57 7)])) ⟨own, ro⟩)
    (h4 : BOk b → brow b ≠ none → 2000 < t0.length → ∀ ro', (∀ a v, ro a = some v → ro' a = some v) → post (.tuple (List.toArray [.pointer none, .int .i64 0, errV (eno 57 4)])) ⟨own, ro'⟩)
    (h5 : BOk b → brow b ≠ none → t0.length ≤ 2000 → ∀ at' e ro', bopenF t0.length ⟨b, [], 0⟩ t0 = .inl (at', e) → e ≠ 0 → (∀ a v, ro a = some v → ro' a = some v) → post (.tuple (List.toArray [.pointer none, .int .i64 at', errV (eno 57 e)])) ⟨own, ro'⟩)
    (h6 : BOk b → brow b ≠ none → t0.length ≤ 2000 → ∀ x s ro', bopenF t0.length ⟨b, [], 0⟩ t0 = .inr x → (∀ a v, ro a = some v → ro' a = some v) → BOO s x ro' → post (.tuple (List.toArray [.pointer (some (Addr.mk s.r 0 none)), .int .i64 (x.n : Int), .nilIface])) ⟨own ++ boL s, ro'⟩) :
    SemCall Tryz.prog 14 (List.toArray [bkV sf sc sh, .string (bs t0)]) ⟨own, ro⟩ post := by
  refine p14_call sf sc sh (bs t0) (fun t a4 a5 a6 a7 h => t = bs t0 ∧ t0.length ≤ 2000 ∧ BOk b ∧ brow b ≠ none ∧ ∃ r4 r5 r6 r7 s ro', a4 = Addr.mk r4 0 none ∧ a5 = Addr.mk r5 0 none ∧ a6 = Addr.mk r6 0 none ∧ a7 = Addr.mk r7 0 none ∧ (∀ a v, ro a = some v → ro' a = some v) ∧ BOO s ⟨b, [], 0⟩ ro' ∧ h = (⟨cells14 r4 r5 r6 r7 s.r 0 .nilIface ++ (boL s ++ own), ro'⟩ : H)) _ post ?_ ?_
  · unfold p14_sem
    intro r1 _ r3 _ r5 _ r7 _
    simp only [bk_row, bx_row, add_mk', Nat.zero_add, Nat.add_zero]
    have hm : bkE r1 sf sc sh ∈ own ++ [bkE r1 sf sc sh] ++ [bxE r3 (.pointer none)] ++ [bxE r5 (.int .i64 0)] ++ [bxE r7 .nilIface] := by simp
    -- what is told at once
    have early : ∀ (E : List Ent) (ro' : Addr → Option Value) (e : Int), e ≠ 0 → post (.tuple (List.toArray [.pointer none, .int .i64 0, .iface 57 (.int .i64 e)])) ⟨own, ro'⟩ →
        H.wr ⟨own ++ [bkE r1 sf sc sh] ++ [bxE r3 (.pointer none)] ++ [bxE r5 (.int .i64 0)] ++ [bxE r7 .nilIface] ++ E, ro'⟩ (Addr.mk r3 0 none) [.pointer none] fun h19 => H.wr h19 (Addr.mk r5 0 none) [.int .i64 0] fun h20 => H.wr h20 (Addr.mk r7 0 none) [.iface 57 (.int .i64 e)] fun h21 =>
          ∃ x22 : Option Addr, H.rd h21 (Addr.mk r3 0 none) (.pointer x22) ∧ ∃ x23 : Int, H.rd h21 (Addr.mk r5 0 none) (.int .i64 x23) ∧ ∃ x24 : Option (TypeId × Value), H.rd h21 (Addr.mk r7 0 none) (errV x24) ∧ VRet h21 (.tuple (List.toArray [.pointer x22, .int .i64 x23, errV x24])) post := by
      intro E ro' e he hp
      refine wr_bx (A := own ++ [bkE r1 sf sc sh]) (v := .pointer none) (C := [bxE r5 (.int .i64 0)] ++ [bxE r7 .nilIface] ++ E) (by simp) rfl ?_
      refine wr_bx (A := own ++ [bkE r1 sf sc sh] ++ [bxE r3 (.pointer none)]) (v := .int .i64 0) (C := [bxE r7 .nilIface] ++ E) (by simp) rfl ?_
      refine wr_bx (A := own ++ [bkE r1 sf sc sh] ++ [bxE r3 (.pointer none)] ++ [bxE r5 (.int .i64 0)]) (v := .nilIface) (C := E) (by simp) rfl ?_
      exact ⟨none, rd_bx (by simp), 0, rd_bx (by simp), some (57, .int .i64 e), rd_bx (v := .iface 57 (.int .i64 e)) (by simp), ⟨own, ro'⟩, Gh.drop (by simp), hp⟩
    refine ⟨sf, bkE_0 hm, sc, bkE_1 hm, sh, bkE_2 hm, new_c (hb.mono (fun e he => by simp [he]) (fun _ _ h => h)) (fun hc => ?_) (fun ho hr => ?_) (fun ho hr s ro' m h => ?_)⟩
    · rw [eno_ne hc]
      refine ⟨none, some (57, .int .i64 (bcheck b)), rfl, ?_⟩
      intro r16 _
      refine wr_bx (A := own ++ [bkE r1 sf sc sh] ++ [bxE r3 (.pointer none)] ++ [bxE r5 (.int .i64 0)] ++ [bxE r7 .nilIface]) (v := .pointer none) (C := []) rfl rfl ⟨rfl, VIf_nb (fun _ => ?_) (fun hh => nomatch hh)⟩
      exact early [bxE r16 (.pointer none)] ro _ hc (by rw [← eno_ne hc]; exact h0 hc)
    · rw [eno_ne (show (7 : Int) ≠ 0 by decide)]
      refine ⟨none, some (57, .int .i64 7), rfl, ?_⟩
      intro r16 _
      refine wr_bx (A := own ++ [bkE r1 sf sc sh] ++ [bxE r3 (.pointer none)] ++ [bxE r5 (.int .i64 0)] ++ [bxE r7 .nilIface]) (v := .pointer none) (C := []) rfl rfl ⟨rfl, VIf_nb (fun _ => ?_) (fun hh => nomatch hh)⟩
      exact early [bxE r16 (.pointer none)] ro 7 (by decide) (h1 ho hr)
    · refine ⟨some (Addr.mk s.r 0 none), none, rfl, ?_⟩
      intro r16 _
      refine wr_bx (A := own ++ [bkE r1 sf sc sh] ++ [bxE r3 (.pointer none)] ++ [bxE r5 (.int .i64 0)] ++ [bxE r7 .nilIface] ++ boL s) (v := .pointer none) (C := []) (by simp [bxE]) rfl ⟨rfl, VIf_nb (fun hh => nomatch hh) (fun _ => VIf_dec (fun hl => ?_) (fun hl => ?_))⟩
      · rw [bs_size] at hl
        have := early (boL s ++ [bxE r16 (.pointer (some (Addr.mk s.r 0 none)))]) ro' 4 (by decide) (h4 ho hr (by omega) ro' m)
        simpa [List.append_assoc] using this
      · rw [bs_size] at hl
        refine ⟨⟨cells14 r3 r5 r7 r16 s.r 0 .nilIface ++ (boL s ++ own), ro'⟩, ?_, (by first | exact rfl | exact trivial), by omega, ho, hr, r3, r5, r7, r16, s, ro', rfl, rfl, rfl, rfl, m, h, rfl⟩
        refine Gh.trans (h1 := ⟨own ++ ([bxE r3 (.pointer none)] ++ [bxE r5 (.int .i64 0)] ++ [bxE r7 .nilIface] ++ boL s ++ [bxE r16 (.pointer (some (Addr.mk s.r 0 none)))]), ro'⟩) (Gh.drop (by simp)) (Gh.perm ?_)
        have p1 : ([bxE r3 (.pointer none)] ++ [bxE r5 (.int .i64 0)] ++ [bxE r7 .nilIface] ++ boL s ++ [bxE r16 (.pointer (some (Addr.mk s.r 0 none)))]).Perm (cells14 r3 r5 r7 r16 s.r 0 .nilIface ++ boL s) := by
          rw [show cells14 r3 r5 r7 r16 s.r 0 .nilIface = [bxE r3 (.pointer none)] ++ [bxE r5 (.int .i64 0)] ++ [bxE r7 .nilIface] ++ [bxE r16 (.pointer (some (Addr.mk s.r 0 none)))] from rfl, List.append_assoc _ (boL s), List.append_assoc _ _ (boL s)]
          exact List.Perm.append_left _ List.perm_append_comm
        rw [← List.append_assoc]
        exact List.perm_append_comm.trans (List.Perm.append_left own p1.symm)
  · intro w f h2 a w2 hw hi hap
    obtain ⟨xt, ht1, hap⟩ := Kd.elim_spec _ _ _ hap
    obtain ⟨a4, hs4, hap⟩ := Kd.elim_spec _ _ _ hap
    obtain ⟨a5, hs5, hap⟩ := Kd.elim_spec _ _ _ hap
    obtain ⟨a6, hs6, hap⟩ := Kd.elim_spec _ _ _ hap
    obtain ⟨a7, hs7, hap⟩ := Kd.elim_spec _ _ _ hap
    obtain ⟨h3, g3, rfl, hlen, ho, hr, r4, r5, r6, r7, s, ro', rfl, rfl, rfl, rfl, m, hbo, rfl⟩ := hap
    have hi := hi.gh g3
    refine mid14 (C := own) hT (hTab.up m) (hN.up m) (hM.up m) hbo hlen hi ht1 hs4 hs5 hs6 hs7 (fun at' e ro2 hbp he m2 => ?_) (fun x' s' ro2 hbp m2 hb' hr' => ?_)
    · rw [← eno_ne he]
      exact h5 ho hr hlen at' e ro2 hbp he (fun a v h => m2 a v (m a v h))
    · exact ⟨⟨own ++ boL s', ro2⟩, Gh.perm List.perm_append_comm, h6 ho hr hlen x' s' ro2 hbp (fun a v h => m2 a v (m a v h)) hb'⟩
end Go.Proofs.YtnppmcgmmdcpiaaGreatDoor
namespace Go.Proofs.YtnppmcgmmdcpiaaGreatDoor
open Go.Eng
set_option maxRecDepth 20000
/-! ### the document's Cut -/
theorem grows_strs : Grows Tryz.prog 67 9 1 := ⟨rfl, rfl, by decide, by decide, ⟨_, rfl, rfl, ⟨rfl, trivial⟩⟩⟩
theorem strs_snoc (p : List (List UInt8)) (w : List UInt8) : strs (p ++ [w]) = strs p ++ [.string (bs w)] := by simp [strs]
theorem byte_at (l : List UInt8) (k : Nat) (h : k < l.length) : ((((bs l).data).toList.getD ((k : Int)).toNat 0).toNat : Int) = (l[k].toNat : Int) := by
  rw [bs_data, Int.toNat_natCast, List.getD_eq_getElem?_getD, List.getElem?_eq_getElem h]
  rfl
theorem byte_eq {a c : UInt8} : ((a.toNat : Nat) : Int) = ((c.toNat : Nat) : Int) ↔ a = c := ⟨fun h => UInt8.toNat_inj.1 (by omega), fun h => by rw [h]⟩
theorem drop_at {l : List UInt8} {fr k : Nat} {c : UInt8} (hfk : fr ≤ k) (hk : k < l.length) (hc : l[k] = c) : l.drop fr = (l.drop fr).take (k - fr) ++ c :: l.drop (k + 1) := by
  conv => lhs; rw [← List.take_append_drop (k - fr) (l.drop fr)]
  rw [List.drop_drop, show fr + (k - fr) = k by omega, ← hc, List.getElem_cons_drop]
theorem take_step {l : List UInt8} {fr k : Nat} (hfk : fr ≤ k) (hk : k < l.length) : (l.drop fr).take (k + 1 - fr) = (l.drop fr).take (k - fr) ++ [l[k]] := by
  rw [show k + 1 - fr = (k - fr) + 1 by omega, List.take_succ_eq_append_getElem (by simp; omega), List.getElem_drop]
  congr 2
  simp only [show fr + (k - fr) = k by omega]
set_option maxHeartbeats 1000000 in
theorem dcut_c {l : List UInt8} (hl : l.length ≤ 1000000) (c : UInt8) {own : List Ent} {ro : Addr → Option Value} {post : Value → H → Prop}
    (hk : ∀ s e, OwnsSl 1 s e (strs (cutB c l)) → post (.slice s.a s.len s.cap) ⟨own ++ [e], ro⟩) :
    SemCall Tryz.prog 33 (List.toArray [.string (bs l), .int .u8 (c.toNat : Int)]) ⟨own, ro⟩ post := by
  refine f33_call _ _ _ post ?_
  unfold f33_sem
  have gph : Gh ⟨own, ro⟩ ⟨own ++ [⟨none, [], 0⟩], ro⟩ := by
    have := Gh.phantom own [] ro 0
    rw [List.append_nil] at this
    exact this
  refine ⟨fun x h => ∃ e, h = (⟨own ++ [e], ro⟩ : H) ∧ OwnsSl 1 x e (strs (cutB c l)),
    ⟨fun n x fr i h => ∃ (p : List (List UInt8)) (f k : Nat) (e : Ent), fr = (f : Int) ∧ i = (k : Int) ∧ n = l.length + 1 - k ∧ h = (⟨own ++ [e], ro⟩ : H) ∧ OwnsSl 1 x e (strs p) ∧ p.length ≤ k ∧
      ((k ≤ l.length ∧ f ≤ k ∧ c ∉ (l.drop f).take (k - f) ∧ cutB c l = p ++ cutB c (l.drop f)) ∨ (k = l.length + 1 ∧ cutB c l = p)),
      ⟨_, ⟨_, gph, [], 0, 0, ⟨none, [], 0⟩, rfl, rfl, rfl, rfl, OwnsSl.nil 1, Nat.le_refl _, .inl ⟨Nat.zero_le _, Nat.le_refl _, by simp, by simp⟩⟩⟩, ?_⟩, ?_⟩
  · rintro n _ x _ _ _ ⟨p, f, k, e, rfl, rfl, rfl, rfl, ho, hpk, hst⟩
    unfold f33_L1
    have hol := ho.sl_len
    simp only [strs, List.length_map] at hol
    refine VIf_dec (fun hx => ?_) (fun hx => ?_)
    · rw [bs_size] at hx
      rcases hst with ⟨hkl, hfk, hnc, hcut⟩ | ⟨hkl, _⟩
      rotate_left
      · omega
      refine ⟨fun b h => b = decide (k = l.length ∨ ∃ hk : k < l.length, l[k] = c) ∧ h = (⟨own ++ [e], ro⟩ : H), VIf_eq (fun he => ⟨_, Gh.refl _, ?_, rfl⟩) (fun hne => ?_), ?_⟩
      · rw [bs_size] at he
        exact (decide_eq_true (.inl (by omega))).symm
      · rw [bs_size] at hne
        have hlt : k < l.length := by omega
        refine ⟨by omega, by rw [bs_size]; omega, _, Gh.refl _, ?_, rfl⟩
        rw [byte_at l k hlt]
        by_cases hc : l[k] = c
        · rw [decide_eq_true (.inr ⟨hlt, hc⟩), hc]; simp
        · have : ¬ (k = l.length ∨ ∃ hk : k < l.length, l[k] = c) := by
            rintro (h | ⟨_, h⟩)
            · omega
            · exact hc h
          rw [decide_eq_false this, beq_eq_false_iff_ne]
          exact fun h => hc (byte_eq.1 h)
      · rintro _ b h ⟨rfl, rfl⟩
        refine VIf_dec (fun hb => ?_) (fun hb => ?_)
        · refine ⟨by omega, by rw [bs_size]; omega, by omega, by omega, ?_⟩
          rw [Int.toNat_natCast, Int.toNat_natCast, bs_ex]
          refine app_row grows_strs (vs := [.string (bs ((l.drop f).take (k - f)))]) rfl ⟨rfl, trivial⟩ own e [] (by simp) ho (by omega) (fun s' e' o' l' => ⟨⟨by omega, by omega⟩, ⟨by omega, by omega⟩, l.length + 1 - (k + 1), by omega, ?_⟩)
          rw [← strs_snoc] at o'
          refine ⟨_, Gh.refl _, p ++ [(l.drop f).take (k - f)], k + 1, k + 1, e', by omega, by omega, rfl, rfl, o', by simp; omega, ?_⟩
          rcases hb with rfl | ⟨hlt, hc⟩
          · right
            refine ⟨rfl, ?_⟩
            have e1 : (l.drop f).take (l.length - f) = l.drop f := List.take_of_length_le (by simp)
            rw [e1] at hnc ⊢
            rw [hcut, cutB_none hnc]
          · left
            refine ⟨by omega, Nat.le_refl _, by simp, ?_⟩
            rw [hcut]
            conv => lhs; rw [drop_at hfk hlt hc, cutB_app hnc]
            simp
        · simp only [not_or, not_exists] at hb
          have hlt : k < l.length := by omega
          refine ⟨⟨by omega, by omega⟩, l.length + 1 - (k + 1), by omega, _, Gh.refl _, p, f, k + 1, e, rfl, by omega, rfl, rfl, ho, by omega, .inl ⟨by omega, by omega, ?_, hcut⟩⟩
          rw [take_step hfk hlt]
          simp only [List.mem_append, List.mem_singleton, not_or]
          exact ⟨hnc, fun h => hb.2 hlt h.symm⟩
    · rw [bs_size] at hx
      rcases hst with ⟨hkl, _⟩ | ⟨hkl, hcut⟩
      · omega
      · exact ⟨_, Gh.refl _, e, rfl, by rw [hcut]; exact ho⟩
  · rintro _ x h ⟨e, rfl, ho⟩
    exact ret (hk x e ho)
end Go.Proofs.YtnppmcgmmdcpiaaGreatDoor
namespace Go.Proofs.YtnppmcgmmdcpiaaGreatDoor
open Go.Eng
set_option maxRecDepth 20000
/-! ### the document's Line -/
theorem lastB_skip {l : List UInt8} {c : UInt8} {k : Nat} (h : l[k]? ≠ some c) : lastB l c (k + 1) = lastB l c k := by
  conv => lhs; unfold lastB
  rw [if_neg h]
set_option maxHeartbeats 1000000 in
theorem dline_c {x : Bo} {sf sc sh : SV} {l : List UInt8} (hl : l.length ≤ 1000000) {own : List Ent} {ro : Addr → Option Value} {post : Value → H → Prop} (hx : BkRd ⟨[], ro⟩ sf sc sh x.b) (hn60 : x.n ≤ 60) (hll : x.l.length ≤ 112 * x.n) (hn3 : x.b.free.length ≤ 3)
    (hk : ∀ sf' sc' sh' ro', (∀ a v, ro a = some v → ro' a = some v) → BkRd ⟨[], ro'⟩ sf' sc' sh' (bline x l).1.b → post (.tuple (List.toArray [dV sf' sc' sh' (bline x l).1.l ((bline x l).1.n : Int), .int .i64 (bline x l).2])) ⟨own, ro'⟩) :
    SemCall Tryz.prog 34 (List.toArray [dV sf sc sh x.l (x.n : Int), .string (bs l)]) ⟨own, ro⟩ post := by
  refine f34_call sf sc sh (bs x.l) (x.n : Int) (bs l) _ post ?_
  unfold f34_sem
  intro r1 _ r3 _
  simp only [add_mk', Nat.zero_add, Nat.add_zero]
  rw [show (⟨some r1, [Value.slice sf.a sf.len sf.cap, .slice sc.a sc.len sc.cap, .slice sh.a sh.len sh.cap, .string (bs x.l), .int .i64 (x.n : Int)], List.length [Value.slice sf.a sf.len sf.cap, .slice sc.a sc.len sc.cap, .slice sh.a sh.len sh.cap, .string (bs x.l), .int .i64 (x.n : Int)]⟩ : Ent) = dE r1 sf sc sh x.l x.n from rfl,
    show (⟨some r3, [Value.slice none 0 0, .slice none 0 0, .slice none 0 0, .string ByteArray.empty, .int .i64 0], List.length [Value.slice none 0 0, .slice none 0 0, .slice none 0 0, .string ByteArray.empty, .int .i64 0]⟩ : Ent) = dE r3 nilV nilV nilV [] 0 from rfl]
  -- what is handed back as it was
  have same : ∀ (X : List Ent) (ro2 : Addr → Option Value) (e : Int), post (.tuple (List.toArray [dV sf sc sh x.l (x.n : Int), .int .i64 e])) ⟨own, ro2⟩ →
      ∃ x21 : SV, H.rd ⟨own ++ [dE r1 sf sc sh x.l x.n] ++ [dE r3 nilV nilV nilV [] 0] ++ X, ro2⟩ (Addr.add (Addr.mk r1 0 none) 0) (.slice x21.a x21.len x21.cap) ∧ ∃ x22 : SV, H.rd ⟨own ++ [dE r1 sf sc sh x.l x.n] ++ [dE r3 nilV nilV nilV [] 0] ++ X, ro2⟩ (Addr.add (Addr.mk r1 0 none) 1) (.slice x22.a x22.len x22.cap) ∧
        ∃ x23 : SV, H.rd ⟨own ++ [dE r1 sf sc sh x.l x.n] ++ [dE r3 nilV nilV nilV [] 0] ++ X, ro2⟩ (Addr.add (Addr.mk r1 0 none) 2) (.slice x23.a x23.len x23.cap) ∧ ∃ x24 : ByteArray, H.rd ⟨own ++ [dE r1 sf sc sh x.l x.n] ++ [dE r3 nilV nilV nilV [] 0] ++ X, ro2⟩ (Addr.add (Addr.mk r1 0 none) 3) (.string x24) ∧
        ∃ x25 : Int, H.rd ⟨own ++ [dE r1 sf sc sh x.l x.n] ++ [dE r3 nilV nilV nilV [] 0] ++ X, ro2⟩ (Addr.add (Addr.mk r1 0 none) 4) (.int .i64 x25) ∧
        ([Value.slice x21.a x21.len x21.cap, .slice x22.a x22.len x22.cap, .slice x23.a x23.len x23.cap, .string x24, .int .i64 x25]).length = 5 ∧ (Program.underlying Tryz.prog 39).isSome = true ∧
        H.wr ⟨own ++ [dE r1 sf sc sh x.l x.n] ++ [dE r3 nilV nilV nilV [] 0] ++ X, ro2⟩ (Addr.mk r3 0 none) [.slice x21.a x21.len x21.cap, .slice x22.a x22.len x22.cap, .slice x23.a x23.len x23.cap, .string x24, .int .i64 x25] fun h26 =>
        ∃ x27 : SV, H.rd h26 (Addr.add (Addr.mk r3 0 none) 0) (.slice x27.a x27.len x27.cap) ∧ ∃ x28 : SV, H.rd h26 (Addr.add (Addr.mk r3 0 none) 1) (.slice x28.a x28.len x28.cap) ∧ ∃ x29 : SV, H.rd h26 (Addr.add (Addr.mk r3 0 none) 2) (.slice x29.a x29.len x29.cap) ∧
        ∃ x30 : ByteArray, H.rd h26 (Addr.add (Addr.mk r3 0 none) 3) (.string x30) ∧ ∃ x31 : Int, H.rd h26 (Addr.add (Addr.mk r3 0 none) 4) (.int .i64 x31) ∧
        VRet h26 (.tuple (List.toArray [.agg (List.toArray [.slice x27.a x27.len x27.cap, .slice x28.a x28.len x28.cap, .slice x29.a x29.len x29.cap, .string x30, .int .i64 x31]), .int .i64 e])) post := by
    intro X ro2 e hp
    simp only [add_mk', Nat.zero_add]
    have hm1 : dE r1 sf sc sh x.l x.n ∈ own ++ [dE r1 sf sc sh x.l x.n] ++ [dE r3 nilV nilV nilV [] 0] ++ X := by simp
    refine ⟨sf, dE_rd hm1 0 rfl, sc, dE_rd hm1 1 rfl, sh, dE_rd hm1 2 rfl, bs x.l, dE_rd hm1 3 rfl, _, dE_rd hm1 4 rfl, rfl, rfl, ?_⟩
    refine wro (own ++ [dE r1 sf sc sh x.l x.n]) (dE r3 nilV nilV nilV [] 0) X ⟨rfl, rfl, rfl, rfl, rfl, trivial⟩ (by simp) rfl (by simp [dE]) ?_
    have hm3 : dE r3 sf sc sh x.l x.n ∈ own ++ [dE r1 sf sc sh x.l x.n] ++ dE r3 sf sc sh x.l x.n :: X := by simp
    exact ⟨sf, dE_rd hm3 0 rfl, sc, dE_rd hm3 1 rfl, sh, dE_rd hm3 2 rfl, bs x.l, dE_rd hm3 3 rfl, _, dE_rd hm3 4 rfl, ⟨⟨own, ro2⟩, Gh.drop (by simp), hp⟩⟩
  have inl : ∀ c, bpre l = .inl c → post (.tuple (List.toArray [dV sf sc sh x.l (x.n : Int), .int .i64 c])) ⟨own, ro⟩ := fun c hc => by
    have e := bline_inl (x := x) hc
    have := hk sf sc sh ro (fun _ _ h => h) (by rw [e]; exact hx)
    rw [e] at this
    exact this
  refine ⟨by rw [bs_size]; exact ⟨by omega, by omega⟩, fun i h => i = lastV (lastB l 32 l.length) ∧ h = (⟨own ++ [dE r1 sf sc sh x.l x.n] ++ [dE r3 nilV nilV nilV [] 0], ro⟩ : H),
    ⟨fun n i h => ∃ k : Nat, i = (k : Int) - 1 ∧ k ≤ l.length ∧ k = n ∧ lastB l 32 l.length = lastB l 32 k ∧ h = (⟨own ++ [dE r1 sf sc sh x.l x.n] ++ [dE r3 nilV nilV nilV [] 0], ro⟩ : H),
      ⟨_, _, Gh.refl _, l.length, by rw [bs_size], Nat.le_refl _, rfl, rfl, rfl⟩, ?_⟩, ?_⟩
  · rintro n _ _ _ ⟨k, rfl, hkl, rfl, hlb, rfl⟩
    unfold f34_L1
    refine ⟨fun b h => b = decide (0 < k ∧ l[k - 1]? ≠ some 32) ∧ h = (⟨own ++ [dE r1 sf sc sh x.l x.n] ++ [dE r3 nilV nilV nilV [] 0], ro⟩ : H), VIf_dec (fun hk0 => ?_) (fun hk0 => ⟨_, Gh.refl _, (decide_eq_false (by omega)).symm, rfl⟩), ?_⟩
    · have hk0 : 0 < k := by omega
      refine ⟨by omega, by rw [bs_size]; omega, _, Gh.refl _, ?_, rfl⟩
      rw [show ((k : Int) - 1) = ((k - 1 : Nat) : Int) by omega, byte_at l (k - 1) (by omega), List.getElem?_eq_getElem (by omega)]
      by_cases hc : l[k - 1] = 32
      · rw [decide_eq_false (by simp [hc]), hc]
        rfl
      · rw [decide_eq_true ⟨hk0, by simpa using hc⟩, bne_iff_ne]
        exact fun h => hc ((byte_eq (c := 32)).1 h)
    · rintro _ b h ⟨rfl, rfl⟩
      refine VIf_dec (fun hb => ⟨⟨by omega, by omega⟩, k - 1, by omega, _, Gh.refl _, k - 1, by omega, by omega, rfl, ?_, rfl⟩) (fun hb => ⟨_, Gh.refl _, ?_, rfl⟩)
      · obtain ⟨k', rfl⟩ : ∃ k', k = k' + 1 := ⟨k - 1, by omega⟩
        exact hlb.trans (lastB_skip (k := k') hb.2)
      · rw [hlb]
        by_cases hk0 : k = 0
        · subst hk0; rfl
        · obtain ⟨k', rfl⟩ : ∃ k', k = k' + 1 := ⟨k - 1, by omega⟩
          have : l[k']? = some 32 := by
            by_cases h : l[k']? = some 32
            · exact h
            · exact absurd ⟨Nat.succ_pos _, h⟩ hb
          unfold lastB
          rw [if_pos this]
          show ((k' + 1 : Nat) : Int) - 1 = (k' : Int)
          omega
  · rintro _ at' h ⟨rfl, rfl⟩
    unfold f34_J5
    cases hlb : lastB l 32 l.length with
    | none =>
      refine ⟨fun _ => ?_, fun hc => nomatch hc⟩
      have := same [] ro 2 (inl 2 (by simp only [bpre, hlb]))
      rw [List.append_nil] at this
      exact this
    | some k =>
      obtain ⟨hkl, hkc⟩ := lastB_lt hlb
      rw [show lastV (some k) = (k : Int) from rfl]
      refine VIf_dec (fun hx' => by omega) (fun _ => ⟨⟨by omega, by omega⟩, by omega, by rw [bs_size]; omega, ?_⟩)
      rw [show ((k : Int) + 1).toNat = k + 1 by omega, bs_drop', Int.toNat_natCast, bs_take l k (by omega)]
      refine dnumber_c (fun v hv => ⟨_, _, rfl, VIf_nb (fun hc => nomatch hc) (fun _ => ⟨by omega, by rw [bs_size]; omega, ?_⟩)⟩) (fun hno y => ⟨_, _, rfl, VIf_nb (fun _ => ?_) (fun hc => nomatch hc)⟩)
      rotate_left
      · have := same [] ro 2 (inl 2 (by simp only [bpre, hlb, numV_none hno]))
        rw [List.append_nil] at this
        exact this
      have hnv := numV_iff.2 hv
      refine dsum_c (by simp; omega) ⟨_, rfl, VIf_ne (fun hne => ?_) (fun heq => ⟨by omega, by rw [bs_size]; omega, ?_⟩)⟩
      · have := same [] ro 6 (inl 6 (by simp only [bpre, hlb, hnv]; rw [if_pos (by omega)]))
        rw [List.append_nil] at this
        exact this
      have hsum : ¬ v ≠ sumB (l.take k) := by omega
      refine dcut_c (l := l.take k) (by simp; omega) 32 (fun sw ew ow => ⟨sw, rfl, ?_⟩)
      have hbp : bpre l = btail (cutB 32 (l.take k)) := by
        simp only [bpre, hlb, hnv]
        rw [if_neg hsum]
      have hne := cutB_ne 32 (l.take k)
      have hwl := cutB_len 32 (l.take k)
      have hwm : ∀ x ∈ cutB 32 (l.take k), x.length ≤ l.length := fun x hx => by have := cutB_mem hx; simp at this; omega
      generalize cutB 32 (l.take k) = ws at hne hbp hwl hwm ow
      obtain ⟨w0, wt, rfl⟩ : ∃ w0 wt, ws = w0 :: wt := by
        cases ws with
        | nil => exact absurd rfl hne
        | cons a b => exact ⟨a, b, rfl⟩
      simp only [List.length_cons, List.length_take] at hwl
      have hwsl := ow.sl_len
      simp only [strs, List.length_map, List.length_cons] at hwsl
      have gph : Gh ⟨own ++ [dE r1 sf sc sh x.l x.n] ++ [dE r3 nilV nilV nilV [] 0] ++ [ew], ro⟩ ⟨own ++ [dE r1 sf sc sh x.l x.n] ++ [dE r3 nilV nilV nilV [] 0] ++ [ew, ⟨none, [], 0⟩], ro⟩ := by
        have := Gh.phantom (own ++ [dE r1 sf sc sh x.l x.n] ++ [dE r3 nilV nilV nilV [] 0] ++ [ew]) [] ro 0
        rw [List.append_nil, List.append_assoc _ [ew]] at this
        exact this
      refine ⟨fun y h => ∃ vs el, h = (⟨own ++ [dE r1 sf sc sh x.l x.n] ++ [dE r3 nilV nilV nilV [] 0] ++ [ew, el], ro⟩ : H) ∧ OwnsSl 1 y el (ints (vs.map fun v : Nat => (v : Int))) ∧ nums wt = some vs,
        ⟨fun n y i h => ∃ (k : Nat) (vs : List Nat) (el : Ent), i = (k : Int) + 1 ∧ k ≤ wt.length ∧ wt.length - k = n ∧ h = (⟨own ++ [dE r1 sf sc sh x.l x.n] ++ [dE r3 nilV nilV nilV [] 0] ++ [ew, el], ro⟩ : H) ∧ OwnsSl 1 y el (ints (vs.map fun v : Nat => (v : Int))) ∧ nums (wt.take k) = some vs,
          ⟨_, ⟨_, gph, 0, [], ⟨none, [], 0⟩, rfl, Nat.zero_le _, rfl, rfl, OwnsSl.nil 1, rfl⟩⟩, ?_⟩, ?_⟩
      · rintro _ _ y _ _ ⟨k, vs, el, rfl, hkn, rfl, rfl, ho, hns⟩
        unfold f34_L2
        refine VIf_dec (fun hx' => ?_) (fun hx' => ⟨_, Gh.refl _, vs, el, rfl, ho, ?_⟩)
        · have hkw : k < wt.length := by omega
          have r2 := RdSl.of_own (h := ⟨own ++ [dE r1 sf sc sh x.l x.n] ++ [dE r3 nilV nilV nilV [] 0] ++ [ew, el], ro⟩) (by simp) ow
          obtain ⟨b, hb⟩ := r2.addr (by simp [strs])
          have hw : (w0 :: wt)[k + 1]? = some (wt[k]) := by rw [List.getElem?_cons_succ, List.getElem?_eq_getElem hkw]
          have hns1 := nums_snoc wt[k] (wt.take k)
          rw [← List.take_succ_eq_append_getElem hkw, hns] at hns1
          have hvl2 := nums_len hns
          simp only [List.length_take] at hvl2
          have hol := ho.sl_len
          simp only [ints_length, List.length_map] at hol
          refine ⟨b, hb, by omega, by omega, bs wt[k], ?_, ?_⟩
          · have := r2.get hb (strs_get hw)
            simpa [Addr.add_zero'] using this
          · refine dnumber_c (fun u hu => ⟨_, _, rfl, VIf_nb (fun hc => nomatch hc) (fun _ => ?_)⟩) (fun hno z => ⟨_, _, rfl, VIf_nb (fun _ => ?_) (fun hc => nomatch hc)⟩)
            · rw [numV_iff.2 hu] at hns1
              refine app_row grows_ints (vs := [.int .i64 (u : Int)]) rfl ⟨rfl, trivial⟩ (own ++ [dE r1 sf sc sh x.l x.n] ++ [dE r3 nilV nilV nilV [] 0] ++ [ew]) el [] (by simp) ho (by omega) (fun s' el' o' l' => ⟨⟨by omega, by omega⟩, wt.length - (k + 1), by omega, ⟨_, Gh.refl _, k + 1, vs ++ [u], el', by omega, by omega, rfl, by simp, ?_, hns1⟩⟩)
              have e1 : ints ((vs ++ [u]).map fun v : Nat => (v : Int)) = ints (vs.map fun v : Nat => (v : Int)) ++ [.int .i64 (u : Int)] := by simp [ints, intV]
              rw [e1]
              exact o'
            · exact same [ew, el] ro 2 (inl 2 (by rw [hbp, btail]; simp only [List.tail_cons]; rw [nums_none (List.getElem_mem hkw) (numV_none hno)]))
        · have : k = wt.length := by omega
          subst this
          rwa [List.take_length] at hns
      · rintro _ y _ ⟨vs, el, rfl, ho, hns⟩
        rw [btail, List.tail_cons, hns] at hbp
        have hbl : bline x l = if (w0 = [97] ∨ w0 = [98]) ∧ vs.length = 1 + x.b.free.length then
            (bput x (decide (w0 = [98])) ((vs.headD 0 : Nat) : Int) (vs.tail.map fun v : Nat => (v : Int)), bcode x (decide (w0 = [98])) ((vs.headD 0 : Nat) : Int) (vs.tail.map fun v : Nat => (v : Int)))
          else (x, 2) := bline_inr (x := x) hbp
        have hol := ho.sl_len
        simp only [ints_length, List.length_map] at hol
        have hfl := hx.f.len
        simp only [ints_length] at hfl
        have r2 := RdSl.of_own (h := ⟨own ++ [dE r1 sf sc sh x.l x.n] ++ [dE r3 nilV nilV nilV [] 0] ++ [ew, el], ro⟩) (by simp) ow
        obtain ⟨b, hb⟩ := r2.addr (by simp [strs])
        have rd0 : H.rd ⟨own ++ [dE r1 sf sc sh x.l x.n] ++ [dE r3 nilV nilV nilV [] 0] ++ [ew, el], ro⟩ (Addr.add (Addr.add b ((0 : Int).toNat * 1)) 0) (.string (bs w0)) := by
          have := r2.get hb (i := 0) (v := .string (bs w0)) rfl
          simpa [Addr.add_zero'] using this
        have hm1 : dE r1 sf sc sh x.l x.n ∈ own ++ [dE r1 sf sc sh x.l x.n] ++ [dE r3 nilV nilV nilV [] 0] ++ [ew, el] := by simp
        have hsw0 : (0 : Int) < ((sw.len : Nat) : Int) := by omega
        have hlen : (((y.len : Nat) : Int) != 1 + ((sf.len : Nat) : Int)) = decide (vs.length ≠ 1 + x.b.free.length) := by
          rw [hol, hfl]
          by_cases hv : vs.length = 1 + x.b.free.length
          · simp [hv]
          · have : ((vs.length : Nat) : Int) ≠ 1 + ((x.b.free.length : Nat) : Int) := by omega
            simp [hv, this]
        unfold f34_J4
        refine ⟨fun c h => c = decide (¬ ((w0 = [97] ∨ w0 = [98]) ∧ vs.length = 1 + x.b.free.length)) ∧ h = (⟨own ++ [dE r1 sf sc sh x.l x.n] ++ [dE r3 nilV nilV nilV [] 0] ++ [ew, el], ro⟩ : H), ⟨b, hb, by omega, hsw0, bs w0, rd0, ?_⟩, ?_⟩
        · rw [show ByteArray.mk (List.toArray [(97 : UInt8)]) = bs [97] from rfl, show ByteArray.mk (List.toArray [(98 : UInt8)]) = bs [98] from rfl, bs_beq]
          have last : ∃ x105 : SV, H.rd ⟨own ++ [dE r1 sf sc sh x.l x.n] ++ [dE r3 nilV nilV nilV [] 0] ++ [ew, el], ro⟩ (Addr.add (Addr.add (Addr.add (Addr.mk r1 0 none) 0) 0) 0) (.slice x105.a x105.len x105.cap) ∧ In64 (1 + ((x105.len : Nat) : Int)) ∧ (((y.len : Nat) : Int) != 1 + ((x105.len : Nat) : Int)) = decide (vs.length ≠ 1 + x.b.free.length) := by
            simp only [add_mk', Nat.zero_add]
            exact ⟨sf, dE_rd hm1 0 rfl, ⟨by omega, by omega⟩, hlen⟩
          obtain ⟨x105, l1, l2, l3⟩ := last
          refine VIf_not (fun h97 => ⟨b, hb, by omega, hsw0, bs w0, rd0, ?_⟩) (fun h97 => ⟨x105, l1, l2, _, Gh.refl _, ?_, rfl⟩)
          · rw [bs_beq]
            refine VIf_not (fun h98 => ⟨_, Gh.refl _, ?_, rfl⟩) (fun h98 => ⟨x105, l1, l2, _, Gh.refl _, ?_, rfl⟩)
            · exact (decide_eq_true (by simp [h97, h98])).symm
            · rw [l3]; simp [h98]
          · rw [l3]; simp [h97]
        · rintro _ c _ ⟨rfl, rfl⟩
          unfold f34_J3
          refine VIf_dec (fun hno => ?_) (fun hyes => ?_)
          · refine same [ew, el] ro 2 ?_
            rw [if_neg hno] at hbl
            have := hk sf sc sh ro (fun _ _ h => h) (by rw [hbl]; exact hx)
            rw [hbl] at this
            exact this
          · have hyes := Classical.not_not.1 hyes
            obtain ⟨hv0, hvl⟩ := hyes
            rw [if_pos ⟨hv0, hvl⟩] at hbl
            obtain ⟨v, vs', rfl⟩ : ∃ v vs', vs = v :: vs' := by
              cases vs with
              | nil => simp at hvl; omega
              | cons v vs => exact ⟨v, vs, rfl⟩
            simp only [List.headD_cons, List.tail_cons, List.length_cons] at hbl hol
            have ry := RdSl.of_own (h := ⟨own ++ [dE r1 sf sc sh x.l x.n] ++ [dE r3 nilV nilV nilV [] 0] ++ [ew, el], ro⟩) (by simp) ho
            obtain ⟨b2, hb2⟩ := ry.addr (by simp)
            have hcap := ho.cap_le
            have rv : H.rd ⟨own ++ [dE r1 sf sc sh x.l x.n] ++ [dE r3 nilV nilV nilV [] 0] ++ [ew, el], ro⟩ (Addr.add (Addr.add b2 ((0 : Int).toNat * 1)) 0) (.int .i64 (v : Int)) := ry.rdi hb2 (i := 0) (by simp)
            refine ⟨b, hb, by omega, hsw0, b2, hb2, by omega, by omega, by omega, by omega, ?_⟩
            simp only [add_mk', Nat.zero_add]
            refine ⟨sf, dE_rd hm1 0 rfl, sc, dE_rd hm1 1 rfl, sh, dE_rd hm1 2 rfl, bs x.l, dE_rd hm1 3 rfl, _, dE_rd hm1 4 rfl, bs w0, rd0, (v : Int), rv, ?_⟩
            rw [show ByteArray.mk (List.toArray [(98 : UInt8)]) = bs [98] from rfl, bs_beq]
            obtain ⟨sw2, hsw2⟩ : ∃ sw2 : SV, sw2 = ⟨if y.cap = (1 : Int).toNat then y.a else Option.map (fun z => Addr.add z ((1 : Int).toNat * 1)) y.a, y.len - (1 : Int).toNat, y.cap - (1 : Int).toNat⟩ := ⟨_, rfl⟩
            have e1 : (if y.cap = (1 : Int).toNat then y.a else Option.map (fun z => Addr.add z ((1 : Int).toNat * 1)) y.a) = sw2.a := by rw [hsw2]
            have e2 : y.len - (1 : Int).toNat = sw2.len := by rw [hsw2]
            have e3 : y.cap - (1 : Int).toNat = sw2.cap := by rw [hsw2]
            rw [e1, e2, e3]
            refine SemCall.frz (own ++ [dE r1 sf sc sh x.l x.n] ++ [dE r3 nilV nilV nilV [] 0] ++ [ew]) el [] (by simp) ho (fun ro' m rr => ?_)
            have hrt := rdSl_tail rr.sl hcap
            rw [← hsw2] at hrt
            refine dput_c (x := x) (decide (w0 = [98])) (hx.mono (by simp) m) hn60 hll hrt (fun sf' sc' sh' ro2 m2 rd2 => ?_)
            have hp := hk sf' sc' sh' ro2 (fun a v h => m2 a v (m a v h)) (by rw [hbl]; exact rd2)
            rw [hbl] at hp
            refine ⟨sf', sc', sh', _, _, _, rfl, rfl, rfl, ?_⟩
            refine wro (own ++ [dE r1 sf sc sh x.l x.n]) (dE r3 nilV nilV nilV [] 0) [ew] ⟨rfl, rfl, rfl, rfl, rfl, trivial⟩ (by simp) rfl (by simp [dE]) ?_
            have hm3 : dE r3 sf' sc' sh' (bput x (decide (w0 = [98])) (v : Int) (vs'.map fun v : Nat => (v : Int))).l ((bput x (decide (w0 = [98])) (v : Int) (vs'.map fun v : Nat => (v : Int))).n : Int) ∈ own ++ [dE r1 sf sc sh x.l x.n] ++ dE r3 sf' sc' sh' (bput x (decide (w0 = [98])) (v : Int) (vs'.map fun v : Nat => (v : Int))).l ((bput x (decide (w0 = [98])) (v : Int) (vs'.map fun v : Nat => (v : Int))).n : Int) :: [ew] := by simp
            exact ⟨sf', dE_rd hm3 0 rfl, sc', dE_rd hm3 1 rfl, sh', dE_rd hm3 2 rfl, _, dE_rd hm3 3 rfl, _, dE_rd hm3 4 rfl, ⟨⟨own, ro2⟩, Gh.drop (by simp), hp⟩⟩
end Go.Proofs.YtnppmcgmmdcpiaaGreatDoor
namespace Go.Proofs.YtnppmcgmmdcpiaaGreatDoor
open Go.Eng
set_option maxRecDepth 20000
/-! ### the document's Open -/
theorem bcode_ask {x : Bo} {back : Bool} {t : Int} {want : List Int} (h : bcode x back t want = 0) : x.n < 60 ∧ BAsk x.b t want := by
  unfold bcode at h
  split at h
  · exact absurd h (by decide)
  · rename_i hn
    refine ⟨by omega, basked_zero ?_⟩
    cases back with
    | true =>
      rw [if_pos rfl] at h
      unfold bback at h
      split at h
      · rename_i h0; exact absurd h h0
      · rename_i h0; exact Classical.byContradiction h0
    | false =>
      rw [if_neg (by simp)] at h
      unfold bask at h
      split at h
      · rename_i h0; exact absurd h h0
      · rename_i h0; exact Classical.byContradiction h0
structure BIn (n : Nat) (x : Bo) : Prop where
  n60 : x.n ≤ 60
  ll : x.l.length ≤ 112 * x.n
  f : x.b.free.length = n
theorem bput_in {n : Nat} {x : Bo} {back : Bool} {t : Int} {want : List Int} (h : BIn n x) : BIn n (bput x back t want) := by
  by_cases h0 : bcode x back t want = 0
  · obtain ⟨h1, h2⟩ := bcode_ask h0
    obtain ⟨hwa, hw3, ht0, ht1⟩ := want_all h2
    have hll := lineB_len (w := if back = true then 98 else 97) ⟨ht0, ht1⟩ hwa hw3
    have hlf := lineF_len hll
    rw [bput_ok h0]
    refine ⟨by simp only []; omega, ?_, by simp only [bmv_fl]; exact h.f⟩
    have := h.ll
    simp only [List.length_append]
    omega
  · rw [bput_err h0]; exact h
theorem bline_in {n : Nat} {x : Bo} {l : List UInt8} (h : BIn n x) : BIn n (bline x l).1 := by
  unfold bline
  split
  · exact h
  · split
    · exact bput_in h
    · exact h
theorem bline_n {x : Bo} {l : List UInt8} (h : (bline x l).2 = 0) : (bline x l).1.n = x.n + 1 := by
  unfold bline at h ⊢
  split at h
  · rename_i e he
    have := bpre_code he
    simp only at h
    omega
  · rename_i ws vs he
    split at h
    · rename_i hc
      rw [if_pos hc]
      simp only at h ⊢
      rw [bput_ok h]
    · exact absurd h (show (2 : Int) ≠ 0 by decide)
theorem cutB_some {t : List UInt8} {i : Nat} (h : Lib.indexByte t 10 = i) : cutB 10 t = t.take i :: cutB 10 (t.drop (i + 1)) := by
  obtain ⟨h1, h2, h3⟩ := idx_split h
  conv => lhs; rw [h1, cutB_app h2]
theorem cutB_pos (c : UInt8) (l : List UInt8) : 0 < (cutB c l).length := List.length_pos_iff.2 (cutB_ne c l)
set_option maxHeartbeats 1000000 in
theorem dopen_c {b : Bk} {sf sc sh : SV} {t0 : List UInt8} {own : List Ent} {ro : Addr → Option Value} {post : Value → H → Prop} (hb : BkRd ⟨[], ro⟩ sf sc sh b)
    (h0 : bcheck b ≠ 0 → ∀ ro', (∀ a v, ro a = some v → ro' a = some v) → post (.tuple (List.toArray [dV nilV nilV nilV [] 0, .int .i64 0, .int .i64 (bcheck b)])) ⟨own, ro'⟩)
    (h1 : BOk b → brow b = none → ∀ ro', (∀ a v, ro a = some v → ro' a = some v) → post (.tuple (List.toArray [dV nilV nilV nilV [] 0, .int .i64 0, .int .i64 7])) ⟨own, ro'⟩)
    (h4 : BOk b → brow b ≠ none → 2000 < t0.length → ∀ ro', (∀ a v, ro a = some v → ro' a = some v) → post (.tuple (List.toArray [dV nilV nilV nilV [] 0, .int .i64 0, .int .i64 4])) ⟨own, ro'⟩)
    (h5 : BOk b → brow b ≠ none → t0.length ≤ 2000 → ∀ at' e ro', bopenF t0.length ⟨b, [], 0⟩ t0 = .inl (at', e) → e ≠ 0 → (∀ a v, ro a = some v → ro' a = some v) → post (.tuple (List.toArray [dV nilV nilV nilV [] 0, .int .i64 at', .int .i64 e])) ⟨own, ro'⟩)
    (h6 : BOk b → brow b ≠ none → t0.length ≤ 2000 → ∀ x sf' sc' sh' ro', bopenF t0.length ⟨b, [], 0⟩ t0 = .inr x → (∀ a v, ro a = some v → ro' a = some v) → BkRd ⟨[], ro'⟩ sf' sc' sh' x.b → BIn b.free.length x → post (.tuple (List.toArray [dV sf' sc' sh' x.l (x.n : Int), .int .i64 (x.n : Int), .int .i64 0])) ⟨own, ro'⟩) :
    SemCall Tryz.prog 16 (List.toArray [bkV sf sc sh, .string (bs t0)]) ⟨own, ro⟩ post := by
  refine f16_call sf sc sh (bs t0) _ post ?_
  unfold f16_sem
  intro r1 _ r3 _
  simp only [bk_row, add_mk', Nat.zero_add, Nat.add_zero]
  rw [show (⟨some r3, [Value.slice none 0 0, .slice none 0 0, .slice none 0 0, .string ByteArray.empty, .int .i64 0], List.length [Value.slice none 0 0, .slice none 0 0, .slice none 0 0, .string ByteArray.empty, .int .i64 0]⟩ : Ent) = dE r3 nilV nilV nilV [] 0 from rfl]
  have hm : bkE r1 sf sc sh ∈ own ++ [bkE r1 sf sc sh] ++ [dE r3 nilV nilV nilV [] 0] := by simp
  have wr3 : ∀ (X : List Ent) (ro2 : Addr → Option Value) (K : H → Prop), K ⟨own ++ [bkE r1 sf sc sh] ++ [dE r3 nilV nilV nilV [] 0] ++ X, ro2⟩ → H.wr ⟨own ++ [bkE r1 sf sc sh] ++ [dE r3 nilV nilV nilV [] 0] ++ X, ro2⟩ (Addr.mk r3 0 none) [.slice none 0 0, .slice none 0 0, .slice none 0 0, .string ByteArray.empty, .int .i64 0] K := by
    intro X ro2 K hK
    refine wro (own ++ [bkE r1 sf sc sh]) (dE r3 nilV nilV nilV [] 0) X ⟨rfl, rfl, rfl, rfl, rfl, trivial⟩ (by simp) rfl (by simp [dE]) ?_
    rw [show own ++ [bkE r1 sf sc sh] ++ [dE r3 nilV nilV nilV [] 0] ++ X = own ++ [bkE r1 sf sc sh] ++ dE r3 nilV nilV nilV [] 0 :: X by simp] at hK
    exact hK
  -- the document's book where there is none
  have early : ∀ (X : List Ent) (ro2 : Addr → Option Value) (at' e : Int), post (.tuple (List.toArray [dV nilV nilV nilV [] 0, .int .i64 at', .int .i64 e])) ⟨own, ro2⟩ →
      ([Value.slice none 0 0, .slice none 0 0, .slice none 0 0, .string ByteArray.empty, .int .i64 0]).length = 5 ∧ (Program.underlying Tryz.prog 39).isSome = true ∧
      H.wr ⟨own ++ [bkE r1 sf sc sh] ++ [dE r3 nilV nilV nilV [] 0] ++ X, ro2⟩ (Addr.mk r3 0 none) [.slice none 0 0, .slice none 0 0, .slice none 0 0, .string ByteArray.empty, .int .i64 0] fun h29 =>
        ∃ x30 : SV, H.rd h29 (Addr.mk r3 0 none) (.slice x30.a x30.len x30.cap) ∧ ∃ x31 : SV, H.rd h29 (Addr.mk r3 1 none) (.slice x31.a x31.len x31.cap) ∧ ∃ x32 : SV, H.rd h29 (Addr.mk r3 2 none) (.slice x32.a x32.len x32.cap) ∧
        ∃ x33 : ByteArray, H.rd h29 (Addr.mk r3 3 none) (.string x33) ∧ ∃ x34 : Int, H.rd h29 (Addr.mk r3 4 none) (.int .i64 x34) ∧
        VRet h29 (.tuple (List.toArray [.agg (List.toArray [.slice x30.a x30.len x30.cap, .slice x31.a x31.len x31.cap, .slice x32.a x32.len x32.cap, .string x33, .int .i64 x34]), .int .i64 at', .int .i64 e])) post := by
    intro X ro2 at' e hp
    refine ⟨rfl, rfl, wr3 X ro2 _ ?_⟩
    have hm3 : dE r3 nilV nilV nilV [] 0 ∈ own ++ [bkE r1 sf sc sh] ++ [dE r3 nilV nilV nilV [] 0] ++ X := by simp
    exact ⟨nilV, dE_rd hm3 0 rfl, nilV, dE_rd hm3 1 rfl, nilV, dE_rd hm3 2 rfl, bs [], dE_rd hm3 3 rfl, _, dE_rd hm3 4 rfl, ⟨⟨own, ro2⟩, Gh.drop (by simp), hp⟩⟩
  -- behind New
  have behind : ∀ (ro2 : Addr → Option Value) (y1 y2 y3 : SV) (e0 : Int), (∀ a v, ro a = some v → ro2 a = some v) →
      (e0 ≠ 0 → post (.tuple (List.toArray [dV nilV nilV nilV [] 0, .int .i64 0, .int .i64 e0])) ⟨own, ro2⟩) → (e0 = 0 → BOk b ∧ brow b ≠ none ∧ sf = y1 ∧ sc = y2 ∧ sh = y3) →
      ∃ x10 x11 x12 : SV, ∃ x13 : ByteArray, ∃ x14 x15 : Int, Value.tuple (List.toArray [dV y1 y2 y3 [] 0, .int .i64 e0]) = .tuple (List.toArray [.agg (List.toArray [.slice x10.a x10.len x10.cap, .slice x11.a x11.len x11.cap, .slice x12.a x12.len x12.cap, .string x13, .int .i64 x14]), .int .i64 x15]) ∧
        H.new ⟨own ++ [bkE r1 sf sc sh] ++ [dE r3 nilV nilV nilV [] 0], ro2⟩ [.slice none 0 0, .slice none 0 0, .slice none 0 0, .string ByteArray.empty, .int .i64 0] fun r16 h17 =>
        ([Value.slice x10.a x10.len x10.cap, .slice x11.a x11.len x11.cap, .slice x12.a x12.len x12.cap, .string x13, .int .i64 x14]).length = 5 ∧ (Program.underlying Tryz.prog 39).isSome = true ∧
        H.wr h17 (Addr.mk r16 0 none) [.slice x10.a x10.len x10.cap, .slice x11.a x11.len x11.cap, .slice x12.a x12.len x12.cap, .string x13, .int .i64 x14] fun h18 =>
        ∃ R19 : Bool → H → Prop, (VIf (x15 == 0) (∃ h20, Gh h18 h20 ∧ R19 (decide (((ByteArray.size (bs t0) : Nat) : Int) > 2000)) h20) (∃ h21, Gh h18 h21 ∧ R19 false h21)) ∧
        ∀ (_ : F) (x22 : Bool) (h23 : H), R19 x22 h23 → ∃ R24 : Int → H → Prop, (VIf x22 (∃ h25, Gh h23 h25 ∧ R24 4 h25) (∃ h26, Gh h23 h26 ∧ R24 x15 h26)) ∧
        ∀ (_ : F) (x27_e : Int) (h28 : H), R24 x27_e h28 → f16_J3 (bs t0) post r3 r16 x27_e h28 := by
    intro ro2 y1 y2 y3 e0 m hne hz
    refine ⟨y1, y2, y3, bs [], 0, e0, rfl, ?_⟩
    intro r16 _
    rw [show (⟨some r16, [Value.slice none 0 0, .slice none 0 0, .slice none 0 0, .string ByteArray.empty, .int .i64 0], List.length [Value.slice none 0 0, .slice none 0 0, .slice none 0 0, .string ByteArray.empty, .int .i64 0]⟩ : Ent) = dE r16 nilV nilV nilV [] 0 from rfl]
    refine ⟨rfl, rfl, wro (own ++ [bkE r1 sf sc sh] ++ [dE r3 nilV nilV nilV [] 0]) (dE r16 nilV nilV nilV [] 0) [] ⟨rfl, rfl, rfl, rfl, rfl, trivial⟩ rfl rfl (by simp [dE]) ?_⟩
    rw [show (⟨(dE r16 nilV nilV nilV [] 0).aid, spl (dE r16 nilV nilV nilV [] 0).cells 0 [.slice y1.a y1.len y1.cap, .slice y2.a y2.len y2.cap, .slice y3.a y3.len y3.cap, .string (bs []), .int .i64 0], (dE r16 nilV nilV nilV [] 0).cap⟩ : Ent) = dE r16 y1 y2 y3 [] 0 from rfl]
    refine ⟨fun c h => c = decide (e0 = 0 ∧ 2000 < t0.length) ∧ h = (⟨own ++ [bkE r1 sf sc sh] ++ [dE r3 nilV nilV nilV [] 0] ++ [dE r16 y1 y2 y3 [] 0], ro2⟩ : H), VIf_eq (fun he => ⟨_, Gh.refl _, ?_, rfl⟩) (fun he => ⟨_, Gh.refl _, (decide_eq_false (fun hh => he hh.1)).symm, rfl⟩), ?_⟩
    · rw [bs_size]
      exact decide_eq_decide.2 (by omega)
    rintro _ c _ ⟨rfl, rfl⟩
    refine ⟨fun e h => e = (if e0 = 0 ∧ 2000 < t0.length then 4 else e0) ∧ h = (⟨own ++ [bkE r1 sf sc sh] ++ [dE r3 nilV nilV nilV [] 0] ++ [dE r16 y1 y2 y3 [] 0], ro2⟩ : H), VIf_dec (fun hc => ⟨_, Gh.refl _, by rw [if_pos hc], rfl⟩) (fun hc => ⟨_, Gh.refl _, by rw [if_neg hc], rfl⟩), ?_⟩
    rintro _ e _ ⟨rfl, rfl⟩
    unfold f16_J3
    simp only [add_mk', Nat.zero_add]
    by_cases hc : e0 = 0 ∧ 2000 < t0.length
    · rw [if_pos hc]
      obtain ⟨ho, hr, _⟩ := hz hc.1
      exact ⟨fun _ => early [dE r16 y1 y2 y3 [] 0] ro2 0 4 (h4 ho hr hc.2 ro2 m), fun hh => nomatch hh⟩
    rw [if_neg hc]
    refine VIf_ne (fun he => early [dE r16 y1 y2 y3 [] 0] ro2 0 e0 (hne he)) (fun he => ?_)
    obtain ⟨ho, hr, rfl, rfl, rfl⟩ := hz he
    have hlen : t0.length ≤ 2000 := by
      by_cases h : 2000 < t0.length
      · exact absurd ⟨he, h⟩ hc
      · omega
    refine dcut_c (l := t0) (by omega) 10 (fun sw ew ow => ⟨sw, rfl, ?_⟩)
    have hwsl := ow.sl_len
    simp only [strs, List.length_map] at hwsl
    have hcl := cutB_len 10 t0
    refine ⟨fun h => ∃ x z1 z2 z3 ro3, h = (⟨own ++ [bkE r1 sf sc sh] ++ [dE r3 nilV nilV nilV [] 0] ++ [dE r16 z1 z2 z3 x.l x.n] ++ [ew], ro3⟩ : H) ∧ (∀ a v, ro a = some v → ro3 a = some v) ∧ BkRd ⟨[], ro3⟩ z1 z2 z3 x.b ∧ BIn b.free.length x ∧ bopenF t0.length ⟨b, [], 0⟩ t0 = .inr x,
      ⟨fun n i h => ∃ (k : Nat) (x : Bo) (t : List UInt8) (fu : Nat) (z1 z2 z3 : SV) (ro3 : Addr → Option Value), i = (k : Int) ∧ (cutB 10 t0).drop k = cutB 10 t ∧ k + (cutB 10 t).length = (cutB 10 t0).length ∧ (cutB 10 t).length = n ∧ x.n = k ∧ t.length ≤ 2000 ∧ t.length ≤ fu ∧ bopenF fu x t = bopenF t0.length ⟨b, [], 0⟩ t0 ∧
          h = (⟨own ++ [bkE r1 sf sc sh] ++ [dE r3 nilV nilV nilV [] 0] ++ [dE r16 z1 z2 z3 x.l x.n] ++ [ew], ro3⟩ : H) ∧ (∀ a v, ro a = some v → ro3 a = some v) ∧ BkRd ⟨[], ro3⟩ z1 z2 z3 x.b ∧ BIn b.free.length x,
        ⟨_, _, Gh.refl _, 0, ⟨b, [], 0⟩, t0, t0.length, sf, sc, sh, ro2, rfl, rfl, Nat.zero_add _, rfl, rfl, hlen, Nat.le_refl _, rfl, rfl, m, hb.mono (by simp) m, ⟨Nat.zero_le _, Nat.zero_le _, rfl⟩⟩, ?_⟩, ?_⟩
    · rintro _ _ _ _ ⟨k, x, t, fu, z1, z2, z3, ro3, rfl, hdk, hkl, rfl, hxn, ht, hfu, hbo, rfl, m3, hz3, hin⟩
      unfold f16_L1
      have hcp := cutB_pos 10 t
      refine ⟨⟨by omega, by omega⟩, VIf_dec (fun hx => ?_) (fun hx => ⟨_, Gh.refl _, x, z1, z2, z3, ro3, rfl, m3, hz3, hin, ?_⟩)⟩
      · -- one line more
        have hlen2 : 1 < (cutB 10 t).length := by omega
        by_cases hix : Lib.indexByte t 10 < 0
        · have := cutB_none (line_none hix).2
          rw [this] at hlen2
          simp at hlen2
        obtain ⟨o, ho'⟩ : ∃ o : Nat, Lib.indexByte t 10 = o := ⟨(Lib.indexByte t 10).toNat, by omega⟩
        have hcs := cutB_some ho'
        have hol := (idx_split ho').2.2
        obtain ⟨fu, rfl⟩ : ∃ f', fu = f' + 1 := ⟨fu - 1, by omega⟩
        rw [bopenF_some ho'] at hbo
        have hpk : (cutB 10 t0)[k]? = some (t.take o) := by
          have : ((cutB 10 t0).drop k)[0]? = some (t.take o) := by rw [hdk, hcs]; rfl
          rw [List.getElem?_drop] at this
          exact this
        have rw' := RdSl.of_own (h := ⟨own ++ [bkE r1 sf sc sh] ++ [dE r3 nilV nilV nilV [] 0] ++ [dE r16 z1 z2 z3 x.l x.n] ++ [ew], ro3⟩) (by simp) ow
        obtain ⟨bb, hbb⟩ := rw'.addr (by simp [strs]; omega)
        have hm16 : dE r16 z1 z2 z3 x.l x.n ∈ own ++ [bkE r1 sf sc sh] ++ [dE r3 nilV nilV nilV [] 0] ++ [dE r16 z1 z2 z3 x.l x.n] ++ [ew] := by simp
        refine ⟨bb, hbb, by omega, by omega, ?_⟩
        simp only [add_mk', Nat.zero_add]
        refine ⟨z1, dE_rd hm16 0 rfl, z2, dE_rd hm16 1 rfl, z3, dE_rd hm16 2 rfl, bs x.l, dE_rd hm16 3 rfl, _, dE_rd hm16 4 rfl, bs (t.take o), ?_, ?_⟩
        · have := rw'.get hbb (strs_get hpk)
          simpa [Addr.add_zero'] using this
        refine dline_c (x := x) (l := t.take o) (by simp; omega) hz3 hin.n60 hin.ll (by rw [hin.f]; exact ho.n3) (fun u1 u2 u3 ro4 m4 hu => ?_)
        refine ⟨OwnExt.same, u1, u2, u3, _, _, _, rfl, ?_⟩
        intro r60 _
        have hbn := bline_n (x := x) (l := t.take o)
        have hbi := bline_in (l := t.take o) hin
        generalize bline x (t.take o) = xe at hbo hbn hbi hu
        obtain ⟨x', e'⟩ := xe
        simp only at hbo hbn hbi hu ⊢
        rw [show (⟨some r60, [Value.slice none 0 0, .slice none 0 0, .slice none 0 0, .string ByteArray.empty, .int .i64 0], List.length [Value.slice none 0 0, .slice none 0 0, .slice none 0 0, .string ByteArray.empty, .int .i64 0]⟩ : Ent) = dE r60 nilV nilV nilV [] 0 from rfl]
        refine ⟨rfl, rfl, wro (own ++ [bkE r1 sf sc sh] ++ [dE r3 nilV nilV nilV [] 0] ++ [dE r16 z1 z2 z3 x.l x.n] ++ [ew]) (dE r60 nilV nilV nilV [] 0) [] ⟨rfl, rfl, rfl, rfl, rfl, trivial⟩ rfl rfl (by simp [dE]) ?_⟩
        rw [show (⟨(dE r60 nilV nilV nilV [] 0).aid, spl (dE r60 nilV nilV nilV [] 0).cells 0 [.slice u1.a u1.len u1.cap, .slice u2.a u2.len u2.cap, .slice u3.a u3.len u3.cap, .string (bs x'.l), .int .i64 (x'.n : Int)], (dE r60 nilV nilV nilV [] 0).cap⟩ : Ent) = dE r60 u1 u2 u3 x'.l x'.n from rfl]
        refine VIf_ne (fun he' => ?_) (fun he' => ?_)
        · rw [if_pos he'] at hbo
          refine ⟨⟨by omega, by omega⟩, ?_⟩
          have := early ([dE r16 z1 z2 z3 x.l x.n] ++ [ew] ++ [dE r60 u1 u2 u3 x'.l x'.n]) ro4 ((k : Int) + 1) e' (h5 ho hr hlen _ _ ro4 (by rw [← hbo, hxn]) he' (fun a v h => m4 a v (m3 a v h)))
          simpa [List.append_assoc] using this
        · subst he'
          rw [if_neg (by simp)] at hbo
          have hm60 : dE r60 u1 u2 u3 x'.l x'.n ∈ own ++ [bkE r1 sf sc sh] ++ [dE r3 nilV nilV nilV [] 0] ++ [dE r16 z1 z2 z3 x.l x.n] ++ [ew] ++ dE r60 u1 u2 u3 x'.l x'.n :: [] := by simp
          refine ⟨u1, dE_rd hm60 0 rfl, u2, dE_rd hm60 1 rfl, u3, dE_rd hm60 2 rfl, bs x'.l, dE_rd hm60 3 rfl, _, dE_rd hm60 4 rfl, rfl, rfl, ?_⟩
          refine wro (own ++ [bkE r1 sf sc sh] ++ [dE r3 nilV nilV nilV [] 0]) (dE r16 z1 z2 z3 x.l x.n) ([ew] ++ [dE r60 u1 u2 u3 x'.l x'.n]) ⟨rfl, rfl, rfl, rfl, rfl, trivial⟩ (by simp) rfl (by simp [dE]) ⟨⟨by omega, by omega⟩, (cutB 10 (t.drop (o + 1))).length, by rw [hcs]; simp, ?_⟩
          rw [show (⟨(dE r16 z1 z2 z3 x.l x.n).aid, spl (dE r16 z1 z2 z3 x.l x.n).cells 0 [.slice u1.a u1.len u1.cap, .slice u2.a u2.len u2.cap, .slice u3.a u3.len u3.cap, .string (bs x'.l), .int .i64 (x'.n : Int)], (dE r16 z1 z2 z3 x.l x.n).cap⟩ : Ent) = dE r16 u1 u2 u3 x'.l x'.n from rfl]
          refine ⟨⟨own ++ [bkE r1 sf sc sh] ++ [dE r3 nilV nilV nilV [] 0] ++ [dE r16 u1 u2 u3 x'.l x'.n] ++ [ew], ro4⟩, Gh.drop (by simp), k + 1, x', t.drop (o + 1), fu, u1, u2, u3, ro4, by omega, ?_, ?_, rfl, by rw [hbn rfl, hxn], by simp; omega, by simp; omega, hbo, rfl, fun a v h => m4 a v (m3 a v h), hu, hbi⟩
          · rw [← List.drop_drop, hdk, hcs]; rfl
          · rw [hcs] at hkl; simp at hkl; omega
      · have hlen1 : (cutB 10 t).length = 1 := by omega
        by_cases hix : Lib.indexByte t 10 < 0
        · rw [← hbo, bopenF_none hix]
        · exfalso
          obtain ⟨o, ho'⟩ : ∃ o : Nat, Lib.indexByte t 10 = o := ⟨(Lib.indexByte t 10).toNat, by omega⟩
          have hcs := cutB_some ho'
          have := cutB_pos 10 (t.drop (o + 1))
          rw [hcs, List.length_cons] at hlen1
          omega
    · rintro _ _ ⟨x, z1, z2, z3, ro3, rfl, m3, hz3, hin, hbo⟩
      have hp := h6 ho hr hlen x z1 z2 z3 ro3 hbo m3 hz3 hin
      have hm16 : ∀ d, dE r16 z1 z2 z3 x.l x.n ∈ own ++ [bkE r1 sf sc sh] ++ d :: ([dE r16 z1 z2 z3 x.l x.n] ++ [ew]) := fun d => by simp
      have hm16' : dE r16 z1 z2 z3 x.l x.n ∈ own ++ [bkE r1 sf sc sh] ++ [dE r3 nilV nilV nilV [] 0] ++ [dE r16 z1 z2 z3 x.l x.n] ++ [ew] := by simp
      have hm3 : dE r3 z1 z2 z3 x.l x.n ∈ own ++ [bkE r1 sf sc sh] ++ dE r3 z1 z2 z3 x.l x.n :: ([dE r16 z1 z2 z3 x.l x.n] ++ [ew]) := by simp
      have w3 : ∀ K : H → Prop, K ⟨own ++ [bkE r1 sf sc sh] ++ dE r3 z1 z2 z3 x.l x.n :: ([dE r16 z1 z2 z3 x.l x.n] ++ [ew]), ro3⟩ → H.wr ⟨own ++ [bkE r1 sf sc sh] ++ [dE r3 nilV nilV nilV [] 0] ++ [dE r16 z1 z2 z3 x.l x.n] ++ [ew], ro3⟩ (Addr.mk r3 0 none) [.slice z1.a z1.len z1.cap, .slice z2.a z2.len z2.cap, .slice z3.a z3.len z3.cap, .string (bs x.l), .int .i64 (x.n : Int)] K := fun K hK =>
        wro (own ++ [bkE r1 sf sc sh]) (dE r3 nilV nilV nilV [] 0) ([dE r16 z1 z2 z3 x.l x.n] ++ [ew]) ⟨rfl, rfl, rfl, rfl, rfl, trivial⟩ (by simp) rfl (by simp [dE]) hK
      have fin : ∃ h2, Gh ⟨own ++ [bkE r1 sf sc sh] ++ dE r3 z1 z2 z3 x.l x.n :: ([dE r16 z1 z2 z3 x.l x.n] ++ [ew]), ro3⟩ h2 ∧ post (.tuple (List.toArray [dV z1 z2 z3 x.l (x.n : Int), .int .i64 (x.n : Int), .int .i64 0])) h2 := ⟨⟨own, ro3⟩, Gh.drop (by simp), hp⟩
      unfold f16_J2
      simp only [add_mk', Nat.zero_add, Nat.add_zero]
      refine ⟨⟨z1, dE_rd hm16' 0 rfl, z2, dE_rd hm16' 1 rfl, z3, dE_rd hm16' 2 rfl, bs x.l, dE_rd hm16' 3 rfl, _, dE_rd hm16' 4 rfl, ⟨_, dE_rd hm16' 4 rfl, rfl, rfl, w3 _ ?_⟩, ⟨rfl, rfl, w3 _ ?_⟩⟩, ⟨_, dE_rd hm16' 4 rfl, z1, dE_rd hm16' 0 rfl, z2, dE_rd hm16' 1 rfl, z3, dE_rd hm16' 2 rfl, bs x.l, dE_rd hm16' 3 rfl, _, dE_rd hm16' 4 rfl, rfl, rfl, w3 _ ?_⟩⟩
      · exact ⟨z1, dE_rd hm3 0 rfl, z2, dE_rd hm3 1 rfl, z3, dE_rd hm3 2 rfl, bs x.l, dE_rd hm3 3 rfl, _, dE_rd hm3 4 rfl, fin⟩
      · exact ⟨_, dE_rd (hm16 _) 4 rfl, z1, dE_rd hm3 0 rfl, z2, dE_rd hm3 1 rfl, z3, dE_rd hm3 2 rfl, bs x.l, dE_rd hm3 3 rfl, _, dE_rd hm3 4 rfl, fin⟩
      · exact ⟨z1, dE_rd hm3 0 rfl, z2, dE_rd hm3 1 rfl, z3, dE_rd hm3 2 rfl, bs x.l, dE_rd hm3 3 rfl, _, dE_rd hm3 4 rfl, fin⟩
  refine ⟨sf, bkE_0 hm, sc, bkE_1 hm, sh, bkE_2 hm, dnew_c hb (fun hc => ?_) (fun ho hr ro' m => ?_) (fun ho hr ro' m => ?_)⟩
  · exact behind ro nilV nilV nilV (bcheck b) (fun _ _ h => h) (fun _ => h0 hc ro (fun _ _ h => h)) (fun h => absurd h hc)
  · exact behind ro' nilV nilV nilV 7 m (fun _ => h1 ho hr ro' m) (fun h => absurd h (by decide))
  · exact behind ro' sf sc sh 0 m (fun h => absurd rfl h) (fun _ => ⟨ho, hr, rfl, rfl, rfl⟩)
end Go.Proofs.YtnppmcgmmdcpiaaGreatDoor
namespace Go.Proofs.YtnppmcgmmdcpiaaGreatDoor
open Go.Eng
set_option maxRecDepth 20000
/-! ### the row's wrap: what is laid, and the world's shape -/
theorem returnsInHanded_andShaped {K : Type} {enc : TypeId × Value → K} {a : Assume} {C : Checked} {os : Os} {f : FuncId} {fn : Func} {s : ChangeSpec} {conds : List PathCond} {apart fresh handsOn again : Bool} {X : World → Array Value → Prop}
    (hX : ∀ (w w' : World) (args : Array Value), w.heap = w'.heap → X w args → X w' args)
    (own : ownKnob C.prog.godebug = none) (started : os.Started) (noInit : C.prog.inits.idxOf? f = none) (hfn : C.prog.funcs[f]? = some fn)
    (witness : ∃ (w : World) (tape : Tape) (i : Input), w.os = os ∧ (w.forCall tape i).Shaped C.prog ∧ i.vars = [] ∧ Input.okWide C.prog (w.forCall tape i) .any w.heap.size f i ∧
      ((s.pre enc C.prog fn conds apart (w.forCall tape i).memory i.args ∧ X (w.forCall tape i).memory i.args) ∧ sizedMet enc C.prog fn (OpenSpec.ofChange s) apart (w.forCall tape i).memory i.args) ∧ a.holds C.prog (lone (Frame.enter C.prog f i.args .normal) [] (w.forCall tape i)))
    (contract : ∀ (W : World) (base : Nat) (args : Array Value) (ds gs : List (DataW K)) (before : List MemPlace),
      (∀ (j : Nat) t v, fn.params[j]? = some t → args[j]? = some v → Value.okWide C.prog W .any base t v) →
      DataW.Whole enc C.prog fn.params.toList s.vars apart W args.toList ds gs before →
      conds.all (PathCond.test C.prog ⟨fn.params.toList, ds, s.plain.varTypes C.prog, gs⟩) = true →
      (DataW.weightsEach C.prog (fn.params.toList ++ s.plain.varTypes C.prog) (ds ++ gs)).all (· ≤ reachBytes) = true → X W args → W.ShapedOpen C.prog →
      a.holds C.prog (lone (Frame.enter C.prog f args .normal) [] W) →
      Calls C.prog f args W fun e W' => ∃ v, e = .returned v ∧ s.post enc C.prog fn apart fresh handsOn again W args v W') :
    ReturnsInHanded a C os f .any (fun w args => (s.pre enc C.prog fn conds apart w args ∧ X w args) ∧ sizedMet enc C.prog fn (OpenSpec.ofChange s) apart w args) (s.post enc C.prog fn apart fresh handsOn again) := by
  refine returnsInHanded_of_calls own started noInit witness ?_
  intro w tape i _ hsh _ hok hpre hholds
  obtain ⟨_, _, _, fn', hfn', _, _, _, _, hval⟩ := hok
  have e : fn' = fn := Option.some.inj (hfn'.symm.trans hfn)
  subst e
  obtain ⟨⟨⟨ds, gs, before, hw, hc⟩, hx⟩, hz⟩ := hpre
  have hw' := DataW.Whole.of_heap (w' := w.forCall tape i) (by rfl) hw
  refine (contract (w.forCall tape i) w.heap.size i.args ds gs before hval hw' hc (hz.weights hw) (hX _ _ _ (by rfl) hx) hsh hholds).mono fun e W' ⟨v, he, hp⟩ => ?_
  subst he
  exact ChangeSpec.post_blind hp
end Go.Proofs.YtnppmcgmmdcpiaaGreatDoor
