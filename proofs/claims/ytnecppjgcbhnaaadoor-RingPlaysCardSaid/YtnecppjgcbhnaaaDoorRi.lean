import Derived.Test.YtnecppjgcbhnaaaDoorRg
namespace Go.Proofs.YtnecppjgcbhnaaaDoor
open Go.Eng
set_option maxRecDepth 20000
/-! ### the document's ring -/
def rgC (s : SV) (a b c d e f : Int) : List Value := [.slice s.a s.len s.cap, .int .i64 a, .int .i64 b, .int .i64 c, .int .i64 d, .int .i64 e, .int .i64 f]
def rgE (r : Nat) (s : SV) (a b c d e f : Int) : Ent := ⟨some r, rgC s a b c d e f, 7⟩
theorem allOne_rg {s : SV} {a b c d e f : Int} : allOne (rgC s a b c d e f) := ⟨rfl, rfl, rfl, rfl, rfl, rfl, rfl, trivial⟩
/-- the whole of it is read -/
theorem rg_get {h : H} {r : Nat} {s : SV} {a b c d e f : Int} {K : SV → Int → Int → Int → Int → Int → Int → Prop} (he : rgE r s a b c d e f ∈ h.own) (hK : K s a b c d e f) :
    ∃ x0 : SV, H.rd h (Addr.add (Addr.mk r 0 none) 0) (.slice x0.a x0.len x0.cap) ∧ ∃ x1 : Int, H.rd h (Addr.add (Addr.mk r 0 none) 1) (.int .i64 x1) ∧ ∃ x2 : Int, H.rd h (Addr.add (Addr.mk r 0 none) 2) (.int .i64 x2) ∧ ∃ x3 : Int, H.rd h (Addr.add (Addr.mk r 0 none) 3) (.int .i64 x3) ∧
    ∃ x4 : Int, H.rd h (Addr.add (Addr.mk r 0 none) 4) (.int .i64 x4) ∧ ∃ x5 : Int, H.rd h (Addr.add (Addr.mk r 0 none) 5) (.int .i64 x5) ∧ ∃ x6 : Int, H.rd h (Addr.add (Addr.mk r 0 none) 6) (.int .i64 x6) ∧ K x0 x1 x2 x3 x4 x5 x6 :=
  rS _ he rfl rfl (rI _ he rfl rfl (rI _ he rfl rfl (rI _ he rfl rfl (rI _ he rfl rfl (rI _ he rfl rfl (rI _ he rfl rfl hK))))))
/-- the whole of it is written -/
theorem rg_put {own : List Ent} {ro : Addr → Option Value} {r : Nat} {s s' : SV} {a b c d e f a' b' c' d' e' f' : Int} {K : H → Prop} (A C : List Ent) (hown : own = A ++ rgE r s' a' b' c' d' e' f' :: C) (hK : K ⟨A ++ rgE r s a b c d e f :: C, ro⟩) :
    (rgC s a b c d e f).length = 7 ∧ (Program.underlying Tryd.prog 30).isSome = true ∧ H.wr ⟨own, ro⟩ (Addr.mk r 0 none) (rgC s a b c d e f) K :=
  ⟨rfl, rfl, wro A (rgE r s' a' b' c' d' e' f') C allOne_rg hown rfl (Nat.le_refl _) hK⟩
/-- the box is copied and handed back -/
theorem rg_fin {own : List Ent} {ro : Addr → Option Value} {r1 r3 : Nat} {s s3 : SV} {a b c d e f a3 b3 c3 d3 e3 f3 : Int} {Q : SV → Int → Int → Int → Int → Int → Int → Value} {post : Value → H → Prop} (hp : post (Q s a b c d e f) ⟨own, ro⟩) :
    ∃ x0 : SV, H.rd ⟨own ++ [rgE r1 s a b c d e f, rgE r3 s3 a3 b3 c3 d3 e3 f3], ro⟩ (Addr.add (Addr.mk r1 0 none) 0) (.slice x0.a x0.len x0.cap) ∧ ∃ x1 : Int, H.rd ⟨own ++ [rgE r1 s a b c d e f, rgE r3 s3 a3 b3 c3 d3 e3 f3], ro⟩ (Addr.add (Addr.mk r1 0 none) 1) (.int .i64 x1) ∧ ∃ x2 : Int, H.rd ⟨own ++ [rgE r1 s a b c d e f, rgE r3 s3 a3 b3 c3 d3 e3 f3], ro⟩ (Addr.add (Addr.mk r1 0 none) 2) (.int .i64 x2) ∧ ∃ x3 : Int, H.rd ⟨own ++ [rgE r1 s a b c d e f, rgE r3 s3 a3 b3 c3 d3 e3 f3], ro⟩ (Addr.add (Addr.mk r1 0 none) 3) (.int .i64 x3) ∧ ∃ x4 : Int, H.rd ⟨own ++ [rgE r1 s a b c d e f, rgE r3 s3 a3 b3 c3 d3 e3 f3], ro⟩ (Addr.add (Addr.mk r1 0 none) 4) (.int .i64 x4) ∧ ∃ x5 : Int, H.rd ⟨own ++ [rgE r1 s a b c d e f, rgE r3 s3 a3 b3 c3 d3 e3 f3], ro⟩ (Addr.add (Addr.mk r1 0 none) 5) (.int .i64 x5) ∧ ∃ x6 : Int, H.rd ⟨own ++ [rgE r1 s a b c d e f, rgE r3 s3 a3 b3 c3 d3 e3 f3], ro⟩ (Addr.add (Addr.mk r1 0 none) 6) (.int .i64 x6) ∧ 
    (rgC x0 x1 x2 x3 x4 x5 x6).length = 7 ∧ (Program.underlying Tryd.prog 30).isSome = true ∧  H.wr ⟨own ++ [rgE r1 s a b c d e f, rgE r3 s3 a3 b3 c3 d3 e3 f3], ro⟩ (Addr.mk r3 0 none) (rgC x0 x1 x2 x3 x4 x5 x6) fun h =>
    ∃ y0 : SV, H.rd h (Addr.add (Addr.mk r3 0 none) 0) (.slice y0.a y0.len y0.cap) ∧ ∃ y1 : Int, H.rd h (Addr.add (Addr.mk r3 0 none) 1) (.int .i64 y1) ∧ ∃ y2 : Int, H.rd h (Addr.add (Addr.mk r3 0 none) 2) (.int .i64 y2) ∧ ∃ y3 : Int, H.rd h (Addr.add (Addr.mk r3 0 none) 3) (.int .i64 y3) ∧ ∃ y4 : Int, H.rd h (Addr.add (Addr.mk r3 0 none) 4) (.int .i64 y4) ∧ ∃ y5 : Int, H.rd h (Addr.add (Addr.mk r3 0 none) 5) (.int .i64 y5) ∧ ∃ y6 : Int, H.rd h (Addr.add (Addr.mk r3 0 none) 6) (.int .i64 y6) ∧  VRet h (Q y0 y1 y2 y3 y4 y5 y6) post :=
  rg_get (s := s) (a := a) (b := b) (c := c) (d := d) (e := e) (f := f) (by simp) (rg_put (s' := s3) (a' := a3) (b' := b3) (c' := c3) (d' := d3) (e' := e3) (f' := f3) (own ++ [rgE r1 s a b c d e f]) [] (by simp) (rg_get (s := s) (a := a) (b := b) (c := c) (d := d) (e := e) (f := f) (by simp) ⟨⟨own, ro⟩, Gh.drop (by simp), hp⟩))
/-- one field of the box is written -/
theorem rg_w {own C : List Ent} {ro : Addr → Option Value} {r1 : Nat} {s : SV} {a b c d e f : Int} {j : Nat} {v : Value} {K : H → Prop} (s2 : SV) (a2 b2 c2 d2 e2 f2 : Int) (h1 : v.oneCell' = true) (hj : 0 + j + 1 ≤ 7) (hs : spl (rgC s a b c d e f) (0 + j) [v] = rgC s2 a2 b2 c2 d2 e2 f2)
    (hK : K ⟨own ++ rgE r1 s2 a2 b2 c2 d2 e2 f2 :: C, ro⟩) : H.wr ⟨own ++ rgE r1 s a b c d e f :: C, ro⟩ (Addr.add (Addr.mk r1 0 none) j) [v] K := by
  refine wF own (rgE r1 s a b c d e f) C ⟨h1, trivial⟩ rfl rfl hj ?_
  show K ⟨own ++ ⟨some r1, spl (rgC s a b c d e f) (0 + j) [v], 7⟩ :: C, ro⟩
  rw [hs]
  exact hK
def refPut (pl : List Int) (hd tl i pu : Int) : List Int × Int × Int × Bool × Bool × Int :=
  if i = 0 then (pl, tl, i, false, false, 7)
  else if i = 1 ∧ tl - hd = pl.length then (pl, tl, 0, true, false, 0)
  else if i = 2 then (pl.set (tl.tmod pl.length).toNat pu, tl, i + 1, false, false, 0)
  else if i = 3 then (pl, tl + 1, 0, true, true, 0)
  else (pl, tl, i + 1, false, false, 0)
theorem tmod_rng {a : Int} {n : Nat} (h : 0 ≤ a) (hn : 0 < n) : 0 ≤ Int.tmod a n ∧ Int.tmod a n < n := by
  obtain ⟨m, rfl⟩ : ∃ m : Nat, a = (m : Int) := ⟨a.toNat, by omega⟩
  have e : Int.tmod (m : Int) (n : Int) = ((m % n : Nat) : Int) := rfl
  have := Nat.mod_lt m hn
  omega
set_option maxHeartbeats 1000000 in
theorem ref_stepput_c {s : SV} {pl : List Int} {hd tl i o pu ha : Int} {own : List Ent} {ro : Addr → Option Value} {post : Value → H → Prop} (hr : RdSl ⟨[], ro⟩ s (ints pl)) (n0 : 0 < pl.length) (n1 : pl.length ≤ 8) (h0 : 0 ≤ hd) (h1 : hd ≤ tl) (t1 : tl ≤ 1000000) (i0 : 0 ≤ i) (i1 : i ≤ 3)
    (hk : ∀ s' ro', (∀ a v, ro a = some v → ro' a = some v) → RdSl ⟨[], ro'⟩ s' (ints (refPut pl hd tl i pu).1) →
      post (.tuple (List.toArray [.agg (List.toArray (rgC s' hd (refPut pl hd tl i pu).2.1 (refPut pl hd tl i pu).2.2.1 o pu ha)), .bool (refPut pl hd tl i pu).2.2.2.1, .bool (refPut pl hd tl i pu).2.2.2.2.1, .int .i64 (refPut pl hd tl i pu).2.2.2.2.2])) ⟨own, ro'⟩) :
    SemCall Tryd.prog 8 (List.toArray [.agg (List.toArray (rgC s hd tl i o pu ha))]) ⟨own, ro⟩ post := by
  refine f8_call _ _ _ _ _ _ _ _ post ?_
  have hsl := hr.len
  rw [ints_length] at hsl
  refine new2 (n1 := 7) (n2 := 7) rfl rfl (fun r1 r3 => ?_)
  have m1 : ∀ {s : SV} {a b c d e f : Int} {X : List Ent}, rgE r1 s a b c d e f ∈ own ++ rgE r1 s a b c d e f :: X := by simp
  refine rI0 (rgE r1 s hd tl i o pu ha) m1 rfl rfl (VIf_eq (fun z => rg_fin (own := own) (r1 := r1) (r3 := r3) (s := s) (a := hd) (b := tl) (c := i) (d := o) (e := pu) (f := ha) (s3 := ⟨none, 0, 0⟩) (a3 := 0) (b3 := 0) (c3 := 0) (d3 := 0) (e3 := 0) (f3 := 0) ?_) (fun z => ?_))
  · unfold refPut at hk; rw [if_pos z] at hk; exact hk s ro (fun _ _ h => h) hr
  refine join_bk (h := ⟨own ++ [rgE r1 s hd tl i o pu ha, rgE r3 ⟨none, 0, 0⟩ 0 0 0 0 0 0], ro⟩) (decide (i = 1 ∧ tl - hd = pl.length)) ?_ (rI0 (rgE r1 s hd tl i o pu ha) m1 rfl rfl (VIf_eq (fun e1 => rI0 (rgE r1 s hd tl i o pu ha) m1 rfl rfl (rI0 (rgE r1 s hd tl i o pu ha) m1 rfl rfl ⟨⟨by omega, by omega⟩, rS0 (rgE r1 s hd tl i o pu ha) m1 rfl rfl (gi ⟨rfl, ?_⟩)⟩)) (fun e1 => gi ⟨rfl, by simp [e1]⟩)))
  rotate_left
  · rw [hsl, e1]; simp; rfl
  refine VIf_dec (fun c => ?_) (fun c => ?_)
  · refine rg_w s hd tl 0 o pu ha rfl (by decide) rfl (rg_fin ?_)
    unfold refPut at hk; rw [if_neg z, if_pos c] at hk; exact hk s ro (fun _ _ h => h) hr
  refine rI0 (rgE r1 s hd tl i o pu ha) m1 rfl rfl ?_
  refine ⟨fun h => ∃ s' ro', (∀ a v, ro a = some v → ro' a = some v) ∧ RdSl ⟨[], ro'⟩ s' (ints (if i = 2 then pl.set (tl.tmod pl.length).toNat pu else pl)) ∧ h = ⟨own ++ [rgE r1 s' hd tl i o pu ha, rgE r3 ⟨none, 0, 0⟩ 0 0 0 0 0 0], ro'⟩, VIf_eq (fun e2 => ?_) (fun e2 => gi ⟨s, ro, fun _ _ h => h, by rw [if_neg e2]; exact hr, rfl⟩), ?_⟩
  · refine rS0 (rgE r1 s hd tl i o pu ha) m1 rfl rfl (rI0 (rgE r1 s hd tl i o pu ha) m1 rfl rfl (rS0 (rgE r1 s hd tl i o pu ha) m1 rfl rfl ⟨by omega, rI0 (rgE r1 s hd tl i o pu ha) m1 rfl rfl ?_⟩))
    obtain ⟨t0, t2⟩ := tmod_rng (a := tl) (n := s.len) (by omega) (by omega)
    refine ref3_set_c hr.ro t0 t2 (by omega) (fun s' ro' hm hr' _ => ⟨s', rfl, ?_⟩)
    refine rg_w s' hd tl i o pu ha rfl (by decide) rfl (gi ⟨s', ro', hm, ?_, rfl⟩)
    rw [if_pos e2, ← hsl]; exact hr'
  rintro _ _ ⟨s', ro', hm, hr', rfl⟩
  refine rI0 (rgE r1 s' hd tl i o pu ha) m1 rfl rfl (VIf_eq (fun e3 => ?_) (fun e3 => ?_))
  · refine rI0 (rgE r1 s' hd tl i o pu ha) m1 rfl rfl ⟨⟨by omega, by omega⟩, rg_w s' hd (tl + 1) i o pu ha rfl (by decide) rfl (rg_w s' hd (tl + 1) 0 o pu ha rfl (by decide) rfl (rg_fin ?_))⟩
    unfold refPut at hk; rw [if_neg z, if_neg c, if_neg (by omega), if_pos e3] at hk
    rw [if_neg (by omega)] at hr'
    exact hk s' ro' hm hr'
  · refine rI0 (rgE r1 s' hd tl i o pu ha) m1 rfl rfl ⟨⟨by omega, by omega⟩, rg_w s' hd tl (i + 1) o pu ha rfl (by decide) rfl (rg_fin ?_)⟩
    unfold refPut at hk; rw [if_neg z, if_neg c] at hk
    by_cases e2 : i = 2
    · rw [if_pos e2] at hk hr'; exact hk s' ro' hm hr'
    · rw [if_neg e2, if_neg e3] at hk; rw [if_neg e2] at hr'; exact hk s' ro' hm hr'
end Go.Proofs.YtnecppjgcbhnaaaDoor
