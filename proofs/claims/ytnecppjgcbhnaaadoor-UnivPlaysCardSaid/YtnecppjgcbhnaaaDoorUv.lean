import Derived.Test.YtnecppjgcbhnaaaDoorRf
namespace Go.Proofs.YtnecppjgcbhnaaaDoor
open Go.Eng
set_option maxRecDepth 20000
/-! ### the struct latchgarthref3.Univ, boxed -/
def uvC (a0 : SV) (a1 : SV) (a2 : SV) (a3 : SV) (a4 : SV) : List Value := [.slice a0.a a0.len a0.cap, .slice a1.a a1.len a1.cap, .slice a2.a a2.len a2.cap, .slice a3.a a3.len a3.cap, .slice a4.a a4.len a4.cap]
def uvE (r : Nat) (a0 : SV) (a1 : SV) (a2 : SV) (a3 : SV) (a4 : SV) : Ent := ⟨some r, uvC a0 a1 a2 a3 a4, 5⟩
theorem uv_one {a0 : SV} {a1 : SV} {a2 : SV} {a3 : SV} {a4 : SV} : allOne (uvC a0 a1 a2 a3 a4) := ⟨rfl, rfl, rfl, rfl, rfl, trivial⟩
theorem uv_get {h : H} {r : Nat} {a0 : SV} {a1 : SV} {a2 : SV} {a3 : SV} {a4 : SV} {K : SV → SV → SV → SV → SV → Prop} (he : uvE r a0 a1 a2 a3 a4 ∈ h.own) (hK : K a0 a1 a2 a3 a4) :
    ∃ x0 : SV, H.rd h (Addr.add (Addr.mk r 0 none) 0) (.slice x0.a x0.len x0.cap) ∧ ∃ x1 : SV, H.rd h (Addr.add (Addr.mk r 0 none) 1) (.slice x1.a x1.len x1.cap) ∧ ∃ x2 : SV, H.rd h (Addr.add (Addr.mk r 0 none) 2) (.slice x2.a x2.len x2.cap) ∧ ∃ x3 : SV, H.rd h (Addr.add (Addr.mk r 0 none) 3) (.slice x3.a x3.len x3.cap) ∧ ∃ x4 : SV, H.rd h (Addr.add (Addr.mk r 0 none) 4) (.slice x4.a x4.len x4.cap) ∧ K x0 x1 x2 x3 x4 :=
  rS _ he rfl rfl (rS _ he rfl rfl (rS _ he rfl rfl (rS _ he rfl rfl (rS _ he rfl rfl (hK)))))
theorem uv_put {own : List Ent} {ro : Addr → Option Value} {r : Nat} {a0 : SV} {a1 : SV} {a2 : SV} {a3 : SV} {a4 : SV} {z0 : SV} {z1 : SV} {z2 : SV} {z3 : SV} {z4 : SV} {K : H → Prop} (A C : List Ent) (hown : own = A ++ uvE r z0 z1 z2 z3 z4 :: C) (hK : K ⟨A ++ uvE r a0 a1 a2 a3 a4 :: C, ro⟩) :
    (uvC a0 a1 a2 a3 a4).length = 5 ∧ (Program.underlying Tryd.prog 52).isSome = true ∧ H.wr ⟨own, ro⟩ (Addr.mk r 0 none) (uvC a0 a1 a2 a3 a4) K :=
  ⟨rfl, rfl, wro A (uvE r z0 z1 z2 z3 z4) C uv_one hown rfl (Nat.le_refl _) hK⟩
theorem uv_fin {own : List Ent} {ro : Addr → Option Value} {r1 r3 : Nat} {a0 : SV} {a1 : SV} {a2 : SV} {a3 : SV} {a4 : SV} {z0 : SV} {z1 : SV} {z2 : SV} {z3 : SV} {z4 : SV} {Q : SV → SV → SV → SV → SV → Value} {post : Value → H → Prop} (hp : post (Q a0 a1 a2 a3 a4) ⟨own, ro⟩) :
    ∃ x0 : SV, H.rd ⟨own ++ [uvE r1 a0 a1 a2 a3 a4, uvE r3 z0 z1 z2 z3 z4], ro⟩ (Addr.add (Addr.mk r1 0 none) 0) (.slice x0.a x0.len x0.cap) ∧ ∃ x1 : SV, H.rd ⟨own ++ [uvE r1 a0 a1 a2 a3 a4, uvE r3 z0 z1 z2 z3 z4], ro⟩ (Addr.add (Addr.mk r1 0 none) 1) (.slice x1.a x1.len x1.cap) ∧ ∃ x2 : SV, H.rd ⟨own ++ [uvE r1 a0 a1 a2 a3 a4, uvE r3 z0 z1 z2 z3 z4], ro⟩ (Addr.add (Addr.mk r1 0 none) 2) (.slice x2.a x2.len x2.cap) ∧ ∃ x3 : SV, H.rd ⟨own ++ [uvE r1 a0 a1 a2 a3 a4, uvE r3 z0 z1 z2 z3 z4], ro⟩ (Addr.add (Addr.mk r1 0 none) 3) (.slice x3.a x3.len x3.cap) ∧ ∃ x4 : SV, H.rd ⟨own ++ [uvE r1 a0 a1 a2 a3 a4, uvE r3 z0 z1 z2 z3 z4], ro⟩ (Addr.add (Addr.mk r1 0 none) 4) (.slice x4.a x4.len x4.cap) ∧ 
    (uvC x0 x1 x2 x3 x4).length = 5 ∧ (Program.underlying Tryd.prog 52).isSome = true ∧ H.wr ⟨own ++ [uvE r1 a0 a1 a2 a3 a4, uvE r3 z0 z1 z2 z3 z4], ro⟩ (Addr.mk r3 0 none) (uvC x0 x1 x2 x3 x4) fun h =>
    ∃ y0 : SV, H.rd h (Addr.add (Addr.mk r3 0 none) 0) (.slice y0.a y0.len y0.cap) ∧ ∃ y1 : SV, H.rd h (Addr.add (Addr.mk r3 0 none) 1) (.slice y1.a y1.len y1.cap) ∧ ∃ y2 : SV, H.rd h (Addr.add (Addr.mk r3 0 none) 2) (.slice y2.a y2.len y2.cap) ∧ ∃ y3 : SV, H.rd h (Addr.add (Addr.mk r3 0 none) 3) (.slice y3.a y3.len y3.cap) ∧ ∃ y4 : SV, H.rd h (Addr.add (Addr.mk r3 0 none) 4) (.slice y4.a y4.len y4.cap) ∧ VRet h (Q y0 y1 y2 y3 y4) post :=
  uv_get (a0 := a0) (a1 := a1) (a2 := a2) (a3 := a3) (a4 := a4) (by simp) (uv_put (z0 := z0) (z1 := z1) (z2 := z2) (z3 := z3) (z4 := z4) (own ++ [uvE r1 a0 a1 a2 a3 a4]) [] (by simp) (uv_get (a0 := a0) (a1 := a1) (a2 := a2) (a3 := a3) (a4 := a4) (by simp) ⟨⟨own, ro⟩, Gh.drop (by simp), hp⟩))
theorem uv_w {own C : List Ent} {ro : Addr → Option Value} {r1 : Nat} {a0 : SV} {a1 : SV} {a2 : SV} {a3 : SV} {a4 : SV} {j : Nat} {v : Value} {K : H → Prop} (b0 : SV) (b1 : SV) (b2 : SV) (b3 : SV) (b4 : SV) (h1 : v.oneCell' = true) (hj : 0 + j + 1 ≤ 5) (hs : spl (uvC a0 a1 a2 a3 a4) (0 + j) [v] = uvC b0 b1 b2 b3 b4)
    (hK : K ⟨own ++ uvE r1 b0 b1 b2 b3 b4 :: C, ro⟩) : H.wr ⟨own ++ uvE r1 a0 a1 a2 a3 a4 :: C, ro⟩ (Addr.add (Addr.mk r1 0 none) j) [v] K := by
  refine wF own (uvE r1 a0 a1 a2 a3 a4) C ⟨h1, trivial⟩ rfl rfl hj ?_
  show K ⟨own ++ ⟨some r1, spl (uvC a0 a1 a2 a3 a4) (0 + j) [v], 5⟩ :: C, ro⟩
  rw [hs]
  exact hK
/-! ### the document's row -/
structure UvR (ro : Addr → Option Value) (A B C D E : SV) (adds cells ats deeds cellz : List Int) : Prop where
  a : RdSl ⟨[], ro⟩ A (ints adds)
  b : RdSl ⟨[], ro⟩ B (ints cells)
  c : RdSl ⟨[], ro⟩ C (ints ats)
  d : RdSl ⟨[], ro⟩ D (ints deeds)
  e : RdSl ⟨[], ro⟩ E (ints cellz)
def bsum (adds cells : List Int) : Nat → Int
  | 0 => 0
  | k + 1 => bsum adds cells k + gI adds (gI cells k).toNat
theorem bsum_ok {adds cells : List Int} (h : ∀ x ∈ adds, 0 ≤ x ∧ x ≤ 1000) : ∀ k : Nat, 0 ≤ bsum adds cells k ∧ bsum adds cells k ≤ 1000 * k
  | 0 => by simp [bsum]
  | k + 1 => by
    have := bsum_ok (cells := cells) h k
    have h2 : 0 ≤ gI adds (gI cells k).toNat ∧ gI adds (gI cells k).toNat ≤ 1000 := by
      unfold gI
      cases he : adds[((cells[k]?).getD 0).toNat]? with
      | none => simp
      | some x => exact h x (List.mem_of_getElem? he)
    simp only [bsum]
    omega
theorem gI_of {l : List Int} {k : Nat} {x : Int} (h : l[k]? = some x) : gI l k = x := by unfold gI; rw [h]; rfl
theorem ref_before_c {A B C D E : SV} {adds cells ats deeds cellz : List Int} {c : Int} {own : List Ent} {ro : Addr → Option Value} {post : Value → H → Prop} (hr : UvR ro A B C D E adds cells ats deeds cellz) (c0 : 0 ≤ c) (c1 : c ≤ cells.length) (c2 : cells.length ≤ 41)
    (ha : ∀ x ∈ adds, 0 ≤ x ∧ x ≤ 1000) (hc : ∀ x ∈ cells, 0 ≤ x ∧ x < adds.length) (hk : post (.int .i64 (bsum adds cells c.toNat)) ⟨own, ro⟩) :
    SemCall Tryd.prog 42 (List.toArray [.agg (List.toArray (uvC A B C D E)), .int .i64 c]) ⟨own, ro⟩ post := by
  refine f42_call _ _ _ _ _ _ _ post ?_
  intro r1 _
  have hla := hr.a.len
  have hlb := hr.b.len
  rw [ints_length] at hla hlb
  refine ⟨fun n h => n = bsum adds cells c.toNat ∧ h = ⟨own ++ [uvE r1 A B C D E], ro⟩, ⟨fun m n i h => ∃ k : Nat, i = (k : Int) ∧ (k : Int) ≤ c ∧ m = c.toNat - k ∧ n = bsum adds cells k ∧ h = ⟨own ++ [uvE r1 A B C D E], ro⟩, ⟨_, gi ⟨0, rfl, c0, rfl, rfl, rfl⟩⟩, ?_⟩, ?_⟩
  · rintro m _ n i _ ⟨k, rfl, hkc, rfl, rfl, rfl⟩
    refine VIf_dec (fun hi => ?_) (fun hi => gi ⟨by rw [show k = c.toNat by omega], rfl⟩)
    refine rS0 (uvE r1 A B C D E) (by simp) rfl rfl (rS0 (uvE r1 A B C D E) (by simp) rfl rfl ?_)
    refine RdSl.idx (h := ⟨own ++ [uvE r1 A B C D E], ro⟩) hr.b.ro (by omega) (by omega) (fun x hx => ?_)
    have hx2 := hc x (List.mem_of_getElem? hx)
    refine RdSl.idx (h := ⟨own ++ [uvE r1 A B C D E], ro⟩) hr.a.ro (by omega) (by omega) (fun y hy => ?_)
    have hy2 := ha y (List.mem_of_getElem? hy)
    have hb := bsum_ok (cells := cells) ha k
    rw [Int.toNat_natCast] at hx
    refine ⟨⟨by omega, by omega⟩, ⟨by omega, by omega⟩, c.toNat - (k + 1), by omega, gi ⟨k + 1, by omega, by omega, rfl, ?_, rfl⟩⟩
    rw [bsum, gI_of hx, gI_of hy]
  · rintro _ n _ ⟨rfl, rfl⟩
    exact ⟨⟨own, ro⟩, Gh.drop (by simp), hk⟩
def refUBegin (adds ats : List Int) (p add : Int) : Int :=
  if ¬ (0 ≤ p ∧ p ≤ (ats.length : Int) - 1) ∨ ¬ (0 ≤ add ∧ add ≤ 1000) then 1 else if gI ats p.toNat ≠ 0 then 7 else if adds.length ≥ 40 then 4 else 0
set_option maxHeartbeats 1000000 in
theorem ref_ubegin_c {A B C D E : SV} {adds cells ats deeds cellz : List Int} {p add : Int} {own : List Ent} {ro : Addr → Option Value} {post : Value → H → Prop} (hr : UvR ro A B C D E adds cells ats deeds cellz) (n1 : ats.length ≤ 4) (nd : deeds.length = ats.length) (nc : cellz.length = ats.length) (na : adds.length ≤ 40)
    (hk : ∀ A' B' C' D' E' ro', (∀ a v, ro a = some v → ro' a = some v) →
      (if refUBegin adds ats p add = 0 then UvR ro' A' B' C' D' E' (adds ++ [add]) cells (ats.set p.toNat 1) (deeds.set p.toNat adds.length) (cellz.set p.toNat 0) else UvR ro' A' B' C' D' E' adds cells ats deeds cellz) →
      post (.tuple (List.toArray [.agg (List.toArray (uvC A' B' C' D' E')), .int .i64 (refUBegin adds ats p add)])) ⟨own, ro'⟩) :
    SemCall Tryd.prog 20 (List.toArray [.agg (List.toArray (uvC A B C D E)), .int .i64 p, .int .i64 add]) ⟨own, ro⟩ post := by
  refine f20_call _ _ _ _ _ _ _ _ post ?_
  have hla := hr.a.len
  have hlc := hr.c.len
  have hld := hr.d.len
  have hle := hr.e.len
  rw [ints_length] at hla hlc hld hle
  refine new2 (n1 := 5) (n2 := 5) rfl rfl (fun r1 r3 => ?_)
  have m1 : ∀ {A B C D E : SV} {X : List Ent}, uvE r1 A B C D E ∈ own ++ uvE r1 A B C D E :: X := by simp
  refine join_bk (h := ⟨own ++ [uvE r1 A B C D E, uvE r3 ⟨none, 0, 0⟩ ⟨none, 0, 0⟩ ⟨none, 0, 0⟩ ⟨none, 0, 0⟩ ⟨none, 0, 0⟩], ro⟩) (decide (¬ (0 ≤ p ∧ p ≤ (ats.length : Int) - 1) ∨ ¬ (0 ≤ add ∧ add ≤ 1000))) ?_ (rS0 (uvE r1 A B C D E) m1 rfl rfl ⟨⟨by omega, by omega⟩, ref3_in_c ⟨_, rfl, VIf_not (fun h => gi ⟨rfl, ?_⟩) (fun h => ref3_in_c ⟨_, rfl, gi ⟨rfl, ?_⟩⟩)⟩⟩)
  rotate_left
  · rw [hlc] at h; exact (decide_eq_true (.inl h)).symm
  · rw [hlc] at h
    rw [← decide_not]
    exact decide_eq_decide.2 ⟨fun h2 => .inr h2, fun h2 => h2.resolve_left (not_not_intro h)⟩
  unfold refUBegin at hk
  refine VIf_dec (fun z => uv_fin ?_) (fun z => ?_)
  · rw [if_pos z] at hk; exact hk A B C D E ro (fun _ _ h => h) (by rw [if_neg (by decide)]; exact hr)
  rw [if_neg z] at hk
  have hp : 0 ≤ p ∧ p ≤ (ats.length : Int) - 1 := Classical.byContradiction fun h => z (.inl h)
  refine rS0 (uvE r1 A B C D E) m1 rfl rfl (RdSl.idx (h := ⟨own ++ [uvE r1 A B C D E, uvE r3 ⟨none, 0, 0⟩ ⟨none, 0, 0⟩ ⟨none, 0, 0⟩ ⟨none, 0, 0⟩ ⟨none, 0, 0⟩], ro⟩) hr.c.ro hp.1 (by omega) (fun x hx => ?_))
  have hgx := gI_of hx
  refine VIf_ne (fun z2 => uv_fin ?_) (fun z2 => ?_)
  · rw [if_pos (by rw [hgx]; exact z2)] at hk; exact hk A B C D E ro (fun _ _ h => h) (by rw [if_neg (by decide)]; exact hr)
  rw [if_neg (by rw [hgx]; exact not_not_intro z2)] at hk
  refine rS0 (uvE r1 A B C D E) m1 rfl rfl (VIf_dec (fun z3 => uv_fin ?_) (fun z3 => ?_))
  · rw [if_pos (by omega)] at hk; exact hk A B C D E ro (fun _ _ h => h) (by rw [if_neg (by decide)]; exact hr)
  rw [if_neg (by omega)] at hk
  refine rS0 (uvE r1 A B C D E) m1 rfl rfl (rS0 (uvE r1 A B C D E) m1 rfl rfl ?_)
  refine ref3_set_c hr.d.ro hp.1 (by omega) (by omega) (fun D' ro1 q1 hd' _ => ⟨D', rfl, uv_w A B C D' E rfl (by decide) rfl ?_⟩)
  refine rS0 (uvE r1 A B C D' E) m1 rfl rfl (ref3_more_c (RdSl.up hr.a (by simp) q1) (by omega) (fun A' ro2 q2 ha' _ => ⟨A', rfl, uv_w A' B C D' E rfl (by decide) rfl ?_⟩))
  have u2 : ∀ a v, ro a = some v → ro2 a = some v := fun a v h => q2 a v (q1 a v h)
  refine rS0 (uvE r1 A' B C D' E) m1 rfl rfl (ref3_set_c (RdSl.up hr.c (by simp) u2) hp.1 (by omega) (by omega) (fun C' ro3 q3 hc' _ => ⟨C', rfl, uv_w A' B C' D' E rfl (by decide) rfl ?_⟩))
  have u3 : ∀ a v, ro a = some v → ro3 a = some v := fun a v h => q3 a v (u2 a v h)
  refine rS0 (uvE r1 A' B C' D' E) m1 rfl rfl (ref3_set_c (RdSl.up hr.e (by simp) u3) hp.1 (by omega) (by omega) (fun E' ro4 q4 he' _ => ⟨E', rfl, uv_w A' B C' D' E' rfl (by decide) rfl (uv_fin ?_)⟩))
  refine hk A' B C' D' E' ro4 (fun a v h => q4 a v (u3 a v h)) ?_
  rw [if_pos rfl]
  refine ⟨RdSl.up ha' (by simp) (fun a v h => q4 a v (q3 a v h)), RdSl.up hr.b (by simp) (fun a v h => q4 a v (u3 a v h)), RdSl.up hc' (by simp) q4, ?_, he'⟩
  have := RdSl.up hd' (own2 := []) (by simp) (fun a v h => q4 a v (q3 a v (q2 a v h)))
  rw [hla] at this
  exact this
def refUStep (adds cells ats deeds cellz : List Int) (p : Int) : (List Int × List Int × List Int) × Bool × Int × Int :=
  if ¬ (0 ≤ p ∧ p ≤ (ats.length : Int) - 1) then ((cells, ats, cellz), false, 0, 1)
  else if gI ats p.toNat = 0 then ((cells, ats, cellz), false, 0, 7)
  else if gI ats p.toNat = 1 then ((if gI cellz p.toNat = cells.length then cells ++ [gI deeds p.toNat] else cells, ats.set p.toNat 2, cellz), false, 0, 0)
  else if gI cells (gI cellz p.toNat).toNat = gI deeds p.toNat then ((cells, ats.set p.toNat 0, cellz), true, bsum adds cells (gI cellz p.toNat).toNat, 0)
  else ((cells, ats.set p.toNat 1, cellz.set p.toNat (gI cellz p.toNat + 1)), false, 0, 0)
set_option maxHeartbeats 2000000 in
theorem ref_ustep_c {A B C D E : SV} {adds cells ats deeds cellz : List Int} {p : Int} {own : List Ent} {ro : Addr → Option Value} {post : Value → H → Prop} (hr : UvR ro A B C D E adds cells ats deeds cellz) (n1 : ats.length ≤ 4) (nd : deeds.length = ats.length) (nc : cellz.length = ats.length) (c2 : cells.length ≤ 41)
    (ha : ∀ x ∈ adds, 0 ≤ x ∧ x ≤ 1000) (hc : ∀ x ∈ cells, 0 ≤ x ∧ x < adds.length) (hz : 0 ≤ p ∧ p ≤ (ats.length : Int) - 1 → gI ats p.toNat ≠ 0 → 0 ≤ gI cellz p.toNat ∧ gI cellz p.toNat ≤ cells.length ∧ (gI ats p.toNat ≠ 1 → gI cellz p.toNat < cells.length))
    (hk : ∀ A' B' C' D' E' ro', (∀ a v, ro a = some v → ro' a = some v) → UvR ro' A' B' C' D' E' adds (refUStep adds cells ats deeds cellz p).1.1 (refUStep adds cells ats deeds cellz p).1.2.1 deeds (refUStep adds cells ats deeds cellz p).1.2.2 →
      post (.tuple (List.toArray [.agg (List.toArray (uvC A' B' C' D' E')), .bool (refUStep adds cells ats deeds cellz p).2.1, .int .i64 (refUStep adds cells ats deeds cellz p).2.2.1, .int .i64 (refUStep adds cells ats deeds cellz p).2.2.2])) ⟨own, ro'⟩) :
    SemCall Tryd.prog 22 (List.toArray [.agg (List.toArray (uvC A B C D E)), .int .i64 p]) ⟨own, ro⟩ post := by
  refine f22_call _ _ _ _ _ _ _ post ?_
  have hla := hr.a.len
  have hlb := hr.b.len
  have hlc := hr.c.len
  have hld := hr.d.len
  have hle := hr.e.len
  rw [ints_length] at hla hlb hlc hld hle
  refine new2 (n1 := 5) (n2 := 5) rfl rfl (fun r1 r3 => ?_)
  obtain ⟨X, hX⟩ : ∃ X, X = [uvE r3 ⟨none, 0, 0⟩ ⟨none, 0, 0⟩ ⟨none, 0, 0⟩ ⟨none, 0, 0⟩ ⟨none, 0, 0⟩] := ⟨_, rfl⟩
  have m1 : ∀ {A B C D E : SV} {X : List Ent}, uvE r1 A B C D E ∈ own ++ uvE r1 A B C D E :: X := by simp
  have S0 : uvE r3 ⟨none, 0, 0⟩ ⟨none, 0, 0⟩ ⟨none, 0, 0⟩ ⟨none, 0, 0⟩ ⟨none, 0, 0⟩ = (⟨some r3, [.slice none 0 0, .slice none 0 0, .slice none 0 0, .slice none 0 0, .slice none 0 0], 5⟩ : Ent) := rfl
  have st : ∀ {Y : List Ent}, own ++ (⟨some r1, [.slice A.a A.len A.cap, .slice B.a B.len B.cap, .slice C.a C.len C.cap, .slice D.a D.len D.cap, .slice E.a E.len E.cap], 5⟩ : Ent) :: Y = own ++ uvE r1 A B C D E :: Y := rfl
  unfold refUStep at hk
  refine rS0 (uvE r1 A B C D E) m1 rfl rfl ⟨⟨by omega, by omega⟩, ref3_in_c ⟨_, rfl, VIf_not (fun z => uv_fin (own := own) (r1 := r1) (r3 := r3) (a0 := A) (a1 := B) (a2 := C) (a3 := D) (a4 := E) (z0 := ⟨none, 0, 0⟩) (z1 := ⟨none, 0, 0⟩) (z2 := ⟨none, 0, 0⟩) (z3 := ⟨none, 0, 0⟩) (z4 := ⟨none, 0, 0⟩) ?_) (fun z => ?_)⟩⟩
  · rw [hlc] at z; rw [if_pos z] at hk; exact hk A B C D E ro (fun _ _ h => h) hr
  rw [hlc] at z
  rw [if_neg (not_not_intro z)] at hk
  have rC : ∀ {own}, RdSl ⟨own, ro⟩ C (ints ats) := hr.c.ro
  have rD : ∀ {own}, RdSl ⟨own, ro⟩ D (ints deeds) := hr.d.ro
  have rE : ∀ {own}, RdSl ⟨own, ro⟩ E (ints cellz) := hr.e.ro
  have rBB : ∀ {own}, RdSl ⟨own, ro⟩ B (ints cells) := hr.b.ro
  refine rS0 (uvE r1 A B C D E) m1 rfl rfl (rC.idx z.1 (by omega) (fun x hx => ?_))
  have hgx := gI_of hx
  refine VIf_eq (fun z2 => uv_fin (own := own) (r1 := r1) (r3 := r3) (a0 := A) (a1 := B) (a2 := C) (a3 := D) (a4 := E) (z0 := ⟨none, 0, 0⟩) (z1 := ⟨none, 0, 0⟩) (z2 := ⟨none, 0, 0⟩) (z3 := ⟨none, 0, 0⟩) (z4 := ⟨none, 0, 0⟩) ?_) (fun z2 => ?_)
  · rw [if_pos (hgx.trans z2)] at hk; exact hk A B C D E ro (fun _ _ h => h) hr
  rw [if_neg (fun h => z2 (hgx.symm.trans h))] at hk
  obtain ⟨k0, k1, k2⟩ := hz z (fun h => z2 (hgx.symm.trans h))
  refine rS0 (uvE r1 A B C D E) m1 rfl rfl (rE.idx z.1 (by omega) (fun c hcx => ?_))
  have hgc := gI_of hcx
  rw [hgc] at hk k0 k1 k2
  refine rS0 (uvE r1 A B C D E) m1 rfl rfl (rC.idx z.1 (by omega) (fun x' hx' => ?_))
  rw [hx] at hx'
  cases hx'
  have hdd : ∃ d, deeds[p.toNat]? = some d := ⟨_, List.getElem?_eq_getElem (by omega)⟩
  obtain ⟨d, hd⟩ := hdd
  have hgd := gI_of hd
  rw [hgd, hgx] at hk
  refine VIf_eq (fun z3 => ?_) (fun z3 => ?_)
  · rw [if_pos z3] at hk
    refine rS0 (uvE r1 A B C D E) m1 rfl rfl ?_
    refine ⟨fun h => ∃ B' ro', (∀ a v, ro a = some v → ro' a = some v) ∧ RdSl ⟨[], ro'⟩ B' (ints (if c = cells.length then cells ++ [d] else cells)) ∧ h = ⟨own ++ [uvE r1 A B' C D E, uvE r3 ⟨none, 0, 0⟩ ⟨none, 0, 0⟩ ⟨none, 0, 0⟩ ⟨none, 0, 0⟩ ⟨none, 0, 0⟩], ro'⟩, VIf_eq (fun z4 => ?_) (fun z4 => gi ⟨B, ro, fun _ _ h => h, by rw [if_neg (by omega)]; exact hr.b, rfl⟩), ?_⟩
    · refine rS0 (uvE r1 A B C D E) m1 rfl rfl (rS0 (uvE r1 A B C D E) m1 rfl rfl (rD.idx z.1 (by omega) (fun y hy => ?_)))
      rw [hd] at hy
      cases hy
      exact ref3_more_c rBB (by omega) (fun B' ro' q hb _ => ⟨B', rfl, uv_w A B' C D E rfl (by decide) rfl (gi ⟨B', ro', q, by rw [if_pos (by omega)]; exact hb, rfl⟩)⟩)
    rintro _ _ ⟨B', ro1, q1, hb, rfl⟩
    refine rS0 (uvE r1 A B' C D E) m1 rfl rfl (ref3_set_c (RdSl.up hr.c (by simp) q1) z.1 (by omega) (by omega) (fun C' ro2 q2 hc' _ => ⟨C', rfl, uv_w A B' C' D E rfl (by decide) rfl (uv_fin ?_)⟩))
    have u2 : ∀ a v, ro a = some v → ro2 a = some v := fun a v h => q2 a v (q1 a v h)
    exact hk A B' C' D E ro2 u2 ⟨RdSl.up hr.a (by simp) u2, RdSl.up hb (by simp) q2, hc', RdSl.up hr.d (by simp) u2, RdSl.up hr.e (by simp) u2⟩
  · rw [if_neg z3] at hk
    have hlt := k2 (fun h => z3 (hgx.symm.trans h))
    refine rS0 (uvE r1 A B C D E) m1 rfl rfl (rBB.idx k0 (by omega) (fun y hy => ?_))
    rw [gI_of hy] at hk
    refine rS0 (uvE r1 A B C D E) m1 rfl rfl (rD.idx z.1 (by omega) (fun y' hy' => ?_))
    rw [hd] at hy'
    cases hy'
    refine VIf_eq (fun z4 => ?_) (fun z4 => ?_)
    · rw [if_pos z4] at hk
      refine rS0 (uvE r1 A B C D E) m1 rfl rfl (ref3_set_c rC z.1 (by omega) (by omega) (fun C' ro1 q1 hc' _ => ⟨C', rfl, uv_w A B C' D E rfl (by decide) rfl ?_⟩))
      have hR : UvR ro1 A B C' D E adds cells (ats.set p.toNat 0) deeds cellz := ⟨RdSl.up hr.a (by simp) q1, RdSl.up hr.b (by simp) q1, hc', RdSl.up hr.d (by simp) q1, RdSl.up hr.e (by simp) q1⟩
      refine ⟨fun b g e h => b = true ∧ g = bsum adds cells c.toNat ∧ e = 0 ∧ h = ⟨own ++ [uvE r1 A B C' D E] ++ [uvE r3 A B C' D E], ro1⟩, ?_, ?_⟩
      · refine ⟨?_, ?_⟩
        · refine uv_get (a0 := A) (a1 := B) (a2 := C') (a3 := D) (a4 := E) (by simp) ?_
          refine uv_get (a0 := A) (a1 := B) (a2 := C') (a3 := D) (a4 := E) (by simp) ?_
          refine ref_before_c hR k0 k1 c2 ha hc ⟨_, rfl, ?_⟩
          refine uv_put (a0 := A) (a1 := B) (a2 := C') (a3 := D) (a4 := E) (z0 := ⟨none, 0, 0⟩) (z1 := ⟨none, 0, 0⟩) (z2 := ⟨none, 0, 0⟩) (z3 := ⟨none, 0, 0⟩) (z4 := ⟨none, 0, 0⟩) (own ++ [uvE r1 A B C' D E]) [] (by simp; rfl) ?_
          exact gi ⟨rfl, rfl, rfl, by simp⟩
        · refine uv_get (a0 := A) (a1 := B) (a2 := C') (a3 := D) (a4 := E) (by simp) ?_
          refine ⟨?_, ?_⟩
          · refine uv_get (a0 := A) (a1 := B) (a2 := C') (a3 := D) (a4 := E) (by simp) ?_
            refine ref_before_c hR k0 k1 c2 ha hc ⟨_, rfl, ?_⟩
            refine uv_put (a0 := A) (a1 := B) (a2 := C') (a3 := D) (a4 := E) (z0 := ⟨none, 0, 0⟩) (z1 := ⟨none, 0, 0⟩) (z2 := ⟨none, 0, 0⟩) (z3 := ⟨none, 0, 0⟩) (z4 := ⟨none, 0, 0⟩) (own ++ [uvE r1 A B C' D E]) [] (by simp; rfl) ?_
            exact gi ⟨rfl, rfl, rfl, by simp⟩
          · refine ref_before_c hR k0 k1 c2 ha hc ⟨_, rfl, ?_⟩
            refine uv_get (a0 := A) (a1 := B) (a2 := C') (a3 := D) (a4 := E) (by simp) ?_
            refine uv_put (a0 := A) (a1 := B) (a2 := C') (a3 := D) (a4 := E) (z0 := ⟨none, 0, 0⟩) (z1 := ⟨none, 0, 0⟩) (z2 := ⟨none, 0, 0⟩) (z3 := ⟨none, 0, 0⟩) (z4 := ⟨none, 0, 0⟩) (own ++ [uvE r1 A B C' D E]) [] (by simp; rfl) ?_
            exact gi ⟨rfl, rfl, rfl, by simp⟩
      rintro _ _ _ _ _ ⟨rfl, rfl, rfl, rfl⟩
      refine uv_get (a0 := A) (a1 := B) (a2 := C') (a3 := D) (a4 := E) (by simp) ?_
      exact ⟨⟨own, ro1⟩, Gh.drop (by simp), hk A B C' D E ro1 q1 hR⟩
    · rw [if_neg z4] at hk
      refine rS0 (uvE r1 A B C D E) m1 rfl rfl ⟨⟨by omega, by omega⟩, ref3_set_c rE z.1 (by omega) (by omega) (fun E' ro1 q1 he' _ => ⟨E', rfl, uv_w A B C D E' rfl (by decide) rfl ?_⟩)⟩
      refine rS0 (uvE r1 A B C D E') m1 rfl rfl (ref3_set_c (RdSl.up hr.c (by simp) q1) z.1 (by omega) (by omega) (fun C' ro2 q2 hc' _ => ⟨C', rfl, uv_w A B C' D E' rfl (by decide) rfl (uv_fin (own := own) (r1 := r1) (r3 := r3) (a0 := A) (a1 := B) (a2 := C') (a3 := D) (a4 := E') (z0 := ⟨none, 0, 0⟩) (z1 := ⟨none, 0, 0⟩) (z2 := ⟨none, 0, 0⟩) (z3 := ⟨none, 0, 0⟩) (z4 := ⟨none, 0, 0⟩) ?_)⟩))
      have u2 : ∀ a v, ro a = some v → ro2 a = some v := fun a v h => q2 a v (q1 a v h)
      exact hk A B C' D E' ro2 u2 ⟨RdSl.up hr.a (by simp) u2, RdSl.up hr.b (by simp) u2, hc', RdSl.up hr.d (by simp) u2, RdSl.up he' (by simp) q2⟩
end Go.Proofs.YtnecppjgcbhnaaaDoor
