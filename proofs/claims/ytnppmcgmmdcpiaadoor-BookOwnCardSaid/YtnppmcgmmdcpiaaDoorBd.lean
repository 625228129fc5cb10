import Derived.Test.YtnppmcgmmdcpiaaDoorBz
import Derived.Test.YtnppmcgmmdcpiaaDoorT2
namespace Go.Proofs.YtnppmcgmmdcpiaaDoor
open Go.Eng
set_option maxRecDepth 20000
/-! ### what a book does -/
structure Bo where
  b : Bk
  l : List UInt8
  n : Nat
noncomputable def bcode (x : Bo) (back : Bool) (t : Int) (want : List Int) : Int :=
  if x.n ≥ 60 then 4 else if back = true then bback x.b t want else bask x.b t want
noncomputable def bput (x : Bo) (back : Bool) (t : Int) (want : List Int) : Bo :=
  if bcode x back t want ≠ 0 then x else ⟨bmv x.b t.toNat want (if back = true then -1 else 1), x.l ++ lineF (lineB (if back = true then 98 else 97) t want), x.n + 1⟩
/-- how banks are shaped -/
structure BSh (b : Bk) : Prop where
  n3 : b.free.length ≤ 3
  m5 : b.claim.length ≤ 5
  hl : b.has.length = b.claim.length
  cn : ∀ t, t < b.claim.length → ((b.claim[t]?).getD []).length = b.free.length ∧ ((b.has[t]?).getD []).length = b.free.length
theorem BOk.bsh {b : Bk} (h : BOk b) : BSh b := ⟨h.n3, h.m5, h.hl, h.cn⟩
theorem BSh.mv {b : Bk} (h : BSh b) {t : Nat} {want : List Int} {s : Int} : BSh (bmv b t want s) := by
  have h1 := h.n3; have h2 := h.m5; have h3 := h.hl
  refine ⟨by rw [bmv_fl]; exact h1, h2, by simp [bmv, h3], fun u hu => ?_⟩
  rw [bmv_fl]
  refine ⟨(h.cn u hu).1, ?_⟩
  have hu' : u < b.has.length := by rw [h3]; exact hu
  have := (h.cn u hu).2
  simp only [bmv, List.getElem?_set]
  split
  · rename_i e
    subst e
    rw [if_pos hu']
    simp
  · exact this
theorem BSh.sml {b : Bk} (h : BSh b) : Sml b := by
  have h1 := h.n3; have h2 := h.m5; have h3 := h.hl
  refine ⟨by omega, ⟨by omega, fun l hl => ?_⟩, ⟨by omega, fun l hl => ?_⟩⟩
  · obtain ⟨t, ht, rfl⟩ := List.mem_iff_getElem.1 hl
    have := (h.cn t ht).1
    rw [List.getElem?_eq_getElem ht] at this
    simp only [Option.getD_some] at this
    omega
  · obtain ⟨t, ht, rfl⟩ := List.mem_iff_getElem.1 hl
    have := (h.cn t (by omega)).2
    rw [List.getElem?_eq_getElem ht] at this
    simp only [Option.getD_some] at this
    omega
/-- a book holds what is told -/
structure BOO (s : BkS) (x : Bo) (ro : Addr → Option Value) : Prop where
  rd : BkRd ⟨[], ro⟩ s.sf s.sc s.sh x.b
  sh : BSh x.b
  bf : BufE s.sb s.eb x.l
  l : s.l = x.l
  n : s.n = (x.n : Int)
  n60 : x.n ≤ 60
  ll : x.l.length ≤ 112 * x.n
theorem BOO.up {s : BkS} {x : Bo} {ro ro' : Addr → Option Value} (h : BOO s x ro) (m : ∀ a v, ro a = some v → ro' a = some v) : BOO s x ro' := ⟨h.rd.mono (by simp) m, h.sh, h.bf, h.l, h.n, h.n60, h.ll⟩

theorem bo_rd {s : BkS} {own : List Ent} {ro : Addr → Option Value} (h : boE s ∈ own) (i : Nat) {v : Value} (hv : (boE s).cells[i]? = some v) : H.rd ⟨own, ro⟩ (Addr.mk s.r i none) v := rdo _ h rfl hv

set_option maxHeartbeats 400000 in
/-- behind the bank: the line is put down -/
theorem do_J2 {s : BkS} {w : UInt8} {t : Int} {want : List Int} {ro : Addr → Option Value} {post : Value → H → Prop} {own : List Ent} (A C : List Ent) (hown : own = A ++ (boL s ++ C)) {T : Nat} (hT : shE 1 T 20 ∈ own) (hG : HasTab ro)
    (hb : BufE s.sb s.eb s.l) (hl : s.l.length ≤ 112 * 60) (hn : 0 ≤ s.n ∧ s.n ≤ 60) (ht : 0 ≤ t ∧ t ≤ 1000) (hw : ∀ x ∈ want, 0 ≤ x ∧ x ≤ 1000) (h3 : want.length ≤ 3)
    (hk : ∀ sb' eb', BufE sb' eb' (s.l ++ lineF (lineB w t want)) → VRet ⟨A ++ (boL { s with pa := true, sb := sb', eb := eb', n := s.n + 1, l := s.l ++ lineF (lineB w t want) } ++ C), ro⟩ .nilIface post) :
    f27_J2 (some (Addr.mk s.r 0 none)) post (bs (lineB w t want)) ⟨own, ro⟩ := by
  have hll := lineB_len (w := w) ht hw h3
  have hlf := lineF_len hll
  have hsl := sumB_lt (lineB w t want)
  have hdl := dec_len (n := sumB (lineB w t want)) (by omega)
  have e10 : ByteArray.mk (List.toArray [(10 : UInt8)]) = bs [10] := rfl
  have e32 : ByteArray.mk (List.toArray [(32 : UInt8)]) = bs [32] := rfl
  simp only [f27_J2, add_mk', Nat.zero_add, Nat.add_zero, e10, e32, bs_app, bs_size]
  refine ⟨_, rfl, by simp only [List.length_cons, List.length_nil]; omega, sum_c (by rw [bs_size]; omega) ⟨_, rfl, ?_⟩⟩
  rw [bs_data]
  refine itoa_c (by omega) (by omega) hT hG ⟨_, rfl, ?_⟩
  rw [show (ByteArray.mk (Lib.itoa ((sumB (lineB w t want) : Nat) : Int)).toArray) = bs (Lib.decDigits (sumB (lineB w t want))) by rw [itoa_nn (by omega), Int.toNat_natCast]; rfl]
  simp only [bs_app, bs_size]
  refine ⟨by simp only [List.length_append, List.length_cons, List.length_nil]; omega, by simp only [List.length_append, List.length_cons, List.length_nil]; omega, ?_⟩
  have e1 : lineB w t want ++ [32] ++ Lib.decDigits (sumB (lineB w t want)) ++ [10] = lineF (lineB w t want) := by simp [lineF]
  rw [e1]
  have h0 : (bs (lineF (lineB w t want))).size ≠ 0 := by
    rw [bs_size]
    have := lineF_ne (lineB w t want)
    intro hc
    exact this (List.eq_nil_of_length_eq_zero hc)
  refine ws_c hb h0 (by rw [bs_size]; omega) A C hown (fun sb' eb' hb' => ?_)
  rw [bs_data] at hb' ⊢
  refine ⟨_, none, rfl, _, rfl, ?_⟩
  have hm : boE { s with pa := true, sb := sb', eb := eb', l := s.l ++ lineF (lineB w t want) } ∈ A ++ (boL { s with pa := true, sb := sb', eb := eb', l := s.l ++ lineF (lineB w t want) } ++ C) := by simp [boL]
  refine ⟨s.n, bo_rd hm 5 rfl, ⟨by omega, by omega⟩, _, rfl, ?_⟩
  refine wro A (boE { s with pa := true, sb := sb', eb := eb', l := s.l ++ lineF (lineB w t want) }) (shE s.r 52 6 :: eb' :: C) ⟨rfl, trivial⟩ (by simp [boL]) rfl (by simp [boE]) ?_
  have := hk sb' eb' hb'
  simpa [boL, boE, spl] using this
end Go.Proofs.YtnppmcgmmdcpiaaDoor
