import Derived.Test.YtnecppjgcbhnaaaDoorSl
import Derived.Test.YtnecppjgcbhnaaaDoorEngJ
import Derived.Test.YtnecppjgcbhnaaaDoorEngL
namespace Go.Proofs.YtnecppjgcbhnaaaDoor
open Go.Eng
set_option maxRecDepth 20000
/-! ### the struct latchgarthref3.Board, boxed -/
def bdC (a0 : SV) (a1 : SV) (a2 : SV) (a3 : SV) (a4 : SV) (a5 : SV) (a6 : SV) (a7 : SV) : List Value := [.slice a0.a a0.len a0.cap, .slice a1.a a1.len a1.cap, .slice a2.a a2.len a2.cap, .slice a3.a a3.len a3.cap, .slice a4.a a4.len a4.cap, .slice a5.a a5.len a5.cap, .slice a6.a a6.len a6.cap, .slice a7.a a7.len a7.cap]
def bdE (r : Nat) (a0 : SV) (a1 : SV) (a2 : SV) (a3 : SV) (a4 : SV) (a5 : SV) (a6 : SV) (a7 : SV) : Ent := ⟨some r, bdC a0 a1 a2 a3 a4 a5 a6 a7, 8⟩
theorem bd_one {a0 : SV} {a1 : SV} {a2 : SV} {a3 : SV} {a4 : SV} {a5 : SV} {a6 : SV} {a7 : SV} : allOne (bdC a0 a1 a2 a3 a4 a5 a6 a7) := ⟨rfl, rfl, rfl, rfl, rfl, rfl, rfl, rfl, trivial⟩
theorem bd_get {h : H} {r : Nat} {a0 : SV} {a1 : SV} {a2 : SV} {a3 : SV} {a4 : SV} {a5 : SV} {a6 : SV} {a7 : SV} {K : SV → SV → SV → SV → SV → SV → SV → SV → Prop} (he : bdE r a0 a1 a2 a3 a4 a5 a6 a7 ∈ h.own) (hK : K a0 a1 a2 a3 a4 a5 a6 a7) :
    ∃ x0 : SV, H.rd h (Addr.add (Addr.mk r 0 none) 0) (.slice x0.a x0.len x0.cap) ∧ ∃ x1 : SV, H.rd h (Addr.add (Addr.mk r 0 none) 1) (.slice x1.a x1.len x1.cap) ∧ ∃ x2 : SV, H.rd h (Addr.add (Addr.mk r 0 none) 2) (.slice x2.a x2.len x2.cap) ∧ ∃ x3 : SV, H.rd h (Addr.add (Addr.mk r 0 none) 3) (.slice x3.a x3.len x3.cap) ∧ ∃ x4 : SV, H.rd h (Addr.add (Addr.mk r 0 none) 4) (.slice x4.a x4.len x4.cap) ∧ ∃ x5 : SV, H.rd h (Addr.add (Addr.mk r 0 none) 5) (.slice x5.a x5.len x5.cap) ∧ ∃ x6 : SV, H.rd h (Addr.add (Addr.mk r 0 none) 6) (.slice x6.a x6.len x6.cap) ∧ ∃ x7 : SV, H.rd h (Addr.add (Addr.mk r 0 none) 7) (.slice x7.a x7.len x7.cap) ∧ K x0 x1 x2 x3 x4 x5 x6 x7 :=
  rS _ he rfl rfl (rS _ he rfl rfl (rS _ he rfl rfl (rS _ he rfl rfl (rS _ he rfl rfl (rS _ he rfl rfl (rS _ he rfl rfl (rS _ he rfl rfl (hK))))))))
theorem bd_put {own : List Ent} {ro : Addr → Option Value} {r : Nat} {a0 : SV} {a1 : SV} {a2 : SV} {a3 : SV} {a4 : SV} {a5 : SV} {a6 : SV} {a7 : SV} {z0 : SV} {z1 : SV} {z2 : SV} {z3 : SV} {z4 : SV} {z5 : SV} {z6 : SV} {z7 : SV} {K : H → Prop} (A C : List Ent) (hown : own = A ++ bdE r z0 z1 z2 z3 z4 z5 z6 z7 :: C) (hK : K ⟨A ++ bdE r a0 a1 a2 a3 a4 a5 a6 a7 :: C, ro⟩) :
    (bdC a0 a1 a2 a3 a4 a5 a6 a7).length = 8 ∧ (Program.underlying Tryd.prog 69).isSome = true ∧ H.wr ⟨own, ro⟩ (Addr.mk r 0 none) (bdC a0 a1 a2 a3 a4 a5 a6 a7) K :=
  ⟨rfl, rfl, wro A (bdE r z0 z1 z2 z3 z4 z5 z6 z7) C bd_one hown rfl (Nat.le_refl _) hK⟩
theorem bd_fin {own Y : List Ent} {ro : Addr → Option Value} {r1 r3 : Nat} {a0 : SV} {a1 : SV} {a2 : SV} {a3 : SV} {a4 : SV} {a5 : SV} {a6 : SV} {a7 : SV} {z0 : SV} {z1 : SV} {z2 : SV} {z3 : SV} {z4 : SV} {z5 : SV} {z6 : SV} {z7 : SV} {Q : SV → SV → SV → SV → SV → SV → SV → SV → Value} {post : Value → H → Prop} (hp : post (Q a0 a1 a2 a3 a4 a5 a6 a7) ⟨own, ro⟩) :
    ∃ x0 : SV, H.rd ⟨own ++ bdE r1 a0 a1 a2 a3 a4 a5 a6 a7 :: bdE r3 z0 z1 z2 z3 z4 z5 z6 z7 :: Y, ro⟩ (Addr.add (Addr.mk r1 0 none) 0) (.slice x0.a x0.len x0.cap) ∧ ∃ x1 : SV, H.rd ⟨own ++ bdE r1 a0 a1 a2 a3 a4 a5 a6 a7 :: bdE r3 z0 z1 z2 z3 z4 z5 z6 z7 :: Y, ro⟩ (Addr.add (Addr.mk r1 0 none) 1) (.slice x1.a x1.len x1.cap) ∧ ∃ x2 : SV, H.rd ⟨own ++ bdE r1 a0 a1 a2 a3 a4 a5 a6 a7 :: bdE r3 z0 z1 z2 z3 z4 z5 z6 z7 :: Y, ro⟩ (Addr.add (Addr.mk r1 0 none) 2) (.slice x2.a x2.len x2.cap) ∧ ∃ x3 : SV, H.rd ⟨own ++ bdE r1 a0 a1 a2 a3 a4 a5 a6 a7 :: bdE r3 z0 z1 z2 z3 z4 z5 z6 z7 :: Y, ro⟩ (Addr.add (Addr.mk r1 0 none) 3) (.slice x3.a x3.len x3.cap) ∧ ∃ x4 : SV, H.rd ⟨own ++ bdE r1 a0 a1 a2 a3 a4 a5 a6 a7 :: bdE r3 z0 z1 z2 z3 z4 z5 z6 z7 :: Y, ro⟩ (Addr.add (Addr.mk r1 0 none) 4) (.slice x4.a x4.len x4.cap) ∧ ∃ x5 : SV, H.rd ⟨own ++ bdE r1 a0 a1 a2 a3 a4 a5 a6 a7 :: bdE r3 z0 z1 z2 z3 z4 z5 z6 z7 :: Y, ro⟩ (Addr.add (Addr.mk r1 0 none) 5) (.slice x5.a x5.len x5.cap) ∧ ∃ x6 : SV, H.rd ⟨own ++ bdE r1 a0 a1 a2 a3 a4 a5 a6 a7 :: bdE r3 z0 z1 z2 z3 z4 z5 z6 z7 :: Y, ro⟩ (Addr.add (Addr.mk r1 0 none) 6) (.slice x6.a x6.len x6.cap) ∧ ∃ x7 : SV, H.rd ⟨own ++ bdE r1 a0 a1 a2 a3 a4 a5 a6 a7 :: bdE r3 z0 z1 z2 z3 z4 z5 z6 z7 :: Y, ro⟩ (Addr.add (Addr.mk r1 0 none) 7) (.slice x7.a x7.len x7.cap) ∧ 
    (bdC x0 x1 x2 x3 x4 x5 x6 x7).length = 8 ∧ (Program.underlying Tryd.prog 69).isSome = true ∧ H.wr ⟨own ++ bdE r1 a0 a1 a2 a3 a4 a5 a6 a7 :: bdE r3 z0 z1 z2 z3 z4 z5 z6 z7 :: Y, ro⟩ (Addr.mk r3 0 none) (bdC x0 x1 x2 x3 x4 x5 x6 x7) fun h =>
    ∃ y0 : SV, H.rd h (Addr.add (Addr.mk r3 0 none) 0) (.slice y0.a y0.len y0.cap) ∧ ∃ y1 : SV, H.rd h (Addr.add (Addr.mk r3 0 none) 1) (.slice y1.a y1.len y1.cap) ∧ ∃ y2 : SV, H.rd h (Addr.add (Addr.mk r3 0 none) 2) (.slice y2.a y2.len y2.cap) ∧ ∃ y3 : SV, H.rd h (Addr.add (Addr.mk r3 0 none) 3) (.slice y3.a y3.len y3.cap) ∧ ∃ y4 : SV, H.rd h (Addr.add (Addr.mk r3 0 none) 4) (.slice y4.a y4.len y4.cap) ∧ ∃ y5 : SV, H.rd h (Addr.add (Addr.mk r3 0 none) 5) (.slice y5.a y5.len y5.cap) ∧ ∃ y6 : SV, H.rd h (Addr.add (Addr.mk r3 0 none) 6) (.slice y6.a y6.len y6.cap) ∧ ∃ y7 : SV, H.rd h (Addr.add (Addr.mk r3 0 none) 7) (.slice y7.a y7.len y7.cap) ∧ VRet h (Q y0 y1 y2 y3 y4 y5 y6 y7) post :=
  bd_get (a0 := a0) (a1 := a1) (a2 := a2) (a3 := a3) (a4 := a4) (a5 := a5) (a6 := a6) (a7 := a7) (by simp) (bd_put (z0 := z0) (z1 := z1) (z2 := z2) (z3 := z3) (z4 := z4) (z5 := z5) (z6 := z6) (z7 := z7) (own ++ [bdE r1 a0 a1 a2 a3 a4 a5 a6 a7]) Y (by simp) (bd_get (a0 := a0) (a1 := a1) (a2 := a2) (a3 := a3) (a4 := a4) (a5 := a5) (a6 := a6) (a7 := a7) (by simp) ⟨⟨own, ro⟩, Gh.drop (by simp), hp⟩))
theorem bd_finY {own Y : List Ent} {ro : Addr → Option Value} {r1 r3 : Nat} {a0 : SV} {a1 : SV} {a2 : SV} {a3 : SV} {a4 : SV} {a5 : SV} {a6 : SV} {a7 : SV} {z0 : SV} {z1 : SV} {z2 : SV} {z3 : SV} {z4 : SV} {z5 : SV} {z6 : SV} {z7 : SV} {Q : SV → SV → SV → SV → SV → SV → SV → SV → Value} {post : Value → H → Prop} (hp : VRet ⟨(own ++ [bdE r1 a0 a1 a2 a3 a4 a5 a6 a7]) ++ bdE r3 a0 a1 a2 a3 a4 a5 a6 a7 :: Y, ro⟩ (Q a0 a1 a2 a3 a4 a5 a6 a7) post) :
    ∃ x0 : SV, H.rd ⟨own ++ bdE r1 a0 a1 a2 a3 a4 a5 a6 a7 :: bdE r3 z0 z1 z2 z3 z4 z5 z6 z7 :: Y, ro⟩ (Addr.add (Addr.mk r1 0 none) 0) (.slice x0.a x0.len x0.cap) ∧ ∃ x1 : SV, H.rd ⟨own ++ bdE r1 a0 a1 a2 a3 a4 a5 a6 a7 :: bdE r3 z0 z1 z2 z3 z4 z5 z6 z7 :: Y, ro⟩ (Addr.add (Addr.mk r1 0 none) 1) (.slice x1.a x1.len x1.cap) ∧ ∃ x2 : SV, H.rd ⟨own ++ bdE r1 a0 a1 a2 a3 a4 a5 a6 a7 :: bdE r3 z0 z1 z2 z3 z4 z5 z6 z7 :: Y, ro⟩ (Addr.add (Addr.mk r1 0 none) 2) (.slice x2.a x2.len x2.cap) ∧ ∃ x3 : SV, H.rd ⟨own ++ bdE r1 a0 a1 a2 a3 a4 a5 a6 a7 :: bdE r3 z0 z1 z2 z3 z4 z5 z6 z7 :: Y, ro⟩ (Addr.add (Addr.mk r1 0 none) 3) (.slice x3.a x3.len x3.cap) ∧ ∃ x4 : SV, H.rd ⟨own ++ bdE r1 a0 a1 a2 a3 a4 a5 a6 a7 :: bdE r3 z0 z1 z2 z3 z4 z5 z6 z7 :: Y, ro⟩ (Addr.add (Addr.mk r1 0 none) 4) (.slice x4.a x4.len x4.cap) ∧ ∃ x5 : SV, H.rd ⟨own ++ bdE r1 a0 a1 a2 a3 a4 a5 a6 a7 :: bdE r3 z0 z1 z2 z3 z4 z5 z6 z7 :: Y, ro⟩ (Addr.add (Addr.mk r1 0 none) 5) (.slice x5.a x5.len x5.cap) ∧ ∃ x6 : SV, H.rd ⟨own ++ bdE r1 a0 a1 a2 a3 a4 a5 a6 a7 :: bdE r3 z0 z1 z2 z3 z4 z5 z6 z7 :: Y, ro⟩ (Addr.add (Addr.mk r1 0 none) 6) (.slice x6.a x6.len x6.cap) ∧ ∃ x7 : SV, H.rd ⟨own ++ bdE r1 a0 a1 a2 a3 a4 a5 a6 a7 :: bdE r3 z0 z1 z2 z3 z4 z5 z6 z7 :: Y, ro⟩ (Addr.add (Addr.mk r1 0 none) 7) (.slice x7.a x7.len x7.cap) ∧ 
    (bdC x0 x1 x2 x3 x4 x5 x6 x7).length = 8 ∧ (Program.underlying Tryd.prog 69).isSome = true ∧ H.wr ⟨own ++ bdE r1 a0 a1 a2 a3 a4 a5 a6 a7 :: bdE r3 z0 z1 z2 z3 z4 z5 z6 z7 :: Y, ro⟩ (Addr.mk r3 0 none) (bdC x0 x1 x2 x3 x4 x5 x6 x7) fun h =>
    ∃ y0 : SV, H.rd h (Addr.add (Addr.mk r3 0 none) 0) (.slice y0.a y0.len y0.cap) ∧ ∃ y1 : SV, H.rd h (Addr.add (Addr.mk r3 0 none) 1) (.slice y1.a y1.len y1.cap) ∧ ∃ y2 : SV, H.rd h (Addr.add (Addr.mk r3 0 none) 2) (.slice y2.a y2.len y2.cap) ∧ ∃ y3 : SV, H.rd h (Addr.add (Addr.mk r3 0 none) 3) (.slice y3.a y3.len y3.cap) ∧ ∃ y4 : SV, H.rd h (Addr.add (Addr.mk r3 0 none) 4) (.slice y4.a y4.len y4.cap) ∧ ∃ y5 : SV, H.rd h (Addr.add (Addr.mk r3 0 none) 5) (.slice y5.a y5.len y5.cap) ∧ ∃ y6 : SV, H.rd h (Addr.add (Addr.mk r3 0 none) 6) (.slice y6.a y6.len y6.cap) ∧ ∃ y7 : SV, H.rd h (Addr.add (Addr.mk r3 0 none) 7) (.slice y7.a y7.len y7.cap) ∧ VRet h (Q y0 y1 y2 y3 y4 y5 y6 y7) post :=
  bd_get (a0 := a0) (a1 := a1) (a2 := a2) (a3 := a3) (a4 := a4) (a5 := a5) (a6 := a6) (a7 := a7) (by simp) (bd_put (z0 := z0) (z1 := z1) (z2 := z2) (z3 := z3) (z4 := z4) (z5 := z5) (z6 := z6) (z7 := z7) (own ++ [bdE r1 a0 a1 a2 a3 a4 a5 a6 a7]) Y (by simp) (bd_get (a0 := a0) (a1 := a1) (a2 := a2) (a3 := a3) (a4 := a4) (a5 := a5) (a6 := a6) (a7 := a7) (by simp) hp))
theorem bd_w {own C : List Ent} {ro : Addr → Option Value} {r1 : Nat} {a0 : SV} {a1 : SV} {a2 : SV} {a3 : SV} {a4 : SV} {a5 : SV} {a6 : SV} {a7 : SV} {j : Nat} {v : Value} {K : H → Prop} (b0 : SV) (b1 : SV) (b2 : SV) (b3 : SV) (b4 : SV) (b5 : SV) (b6 : SV) (b7 : SV) (h1 : v.oneCell' = true) (hj : 0 + j + 1 ≤ 8) (hs : spl (bdC a0 a1 a2 a3 a4 a5 a6 a7) (0 + j) [v] = bdC b0 b1 b2 b3 b4 b5 b6 b7)
    (hK : K ⟨own ++ bdE r1 b0 b1 b2 b3 b4 b5 b6 b7 :: C, ro⟩) : H.wr ⟨own ++ bdE r1 a0 a1 a2 a3 a4 a5 a6 a7 :: C, ro⟩ (Addr.add (Addr.mk r1 0 none) j) [v] K := by
  refine wF own (bdE r1 a0 a1 a2 a3 a4 a5 a6 a7) C ⟨h1, trivial⟩ rfl rfl hj ?_
  show K ⟨own ++ ⟨some r1, spl (bdC a0 a1 a2 a3 a4 a5 a6 a7) (0 + j) [v], 8⟩ :: C, ro⟩
  rw [hs]
  exact hK
/-! ### the document's board -/
set_option maxRecDepth 20000 in
theorem grows_bools : Grows Tryd.prog 66 4 1 := ⟨rfl, rfl, by decide, by decide, ⟨_, rfl, rfl, ⟨rfl, trivial⟩⟩⟩
set_option maxRecDepth 20000 in
theorem grows_rws : Grows Tryd.prog 65 78 3 := ⟨rfl, rfl, by decide, by decide, ⟨_, rfl, rfl, ⟨rfl, rfl, rfl, trivial⟩⟩⟩
set_option maxRecDepth 20000 in
theorem grows_rwss : Grows Tryd.prog 67 65 1 := ⟨rfl, rfl, by decide, by decide, ⟨_, rfl, rfl, ⟨rfl, trivial⟩⟩⟩
set_option maxRecDepth 20000 in
theorem grows_rows : Grows Tryd.prog 47 22 1 := ⟨rfl, rfl, by decide, by decide, ⟨_, rfl, rfl, ⟨rfl, trivial⟩⟩⟩
theorem allOne_map {α : Type} {f : α → Value} (hf : ∀ x, (f x).oneCell' = true) (l : List α) : allOne (l.map f) := allOne_iff.2 fun v hv => by
  obtain ⟨x, _, rfl⟩ := List.mem_map.1 hv
  exact hf x
theorem allOne_words (l : List CW) : allOne (l.flatMap cwV) := allOne_iff.2 fun v hv => by
  obtain ⟨x, _, h⟩ := List.mem_flatMap.1 hv
  simp only [cwV, List.mem_cons, List.mem_nil_iff, or_false] at h
  rcases h with rfl | rfl | rfl <;> rfl
theorem app_newG {t e : TypeId} {sz : Nat} (g : Grows Tryd.prog t e sz) {s : SV} {ys : List Value} {own : List Ent} {ro : Addr → Option Value} {K : SV → H → Prop} (hr : RdRows ⟨own, ro⟩ sz s ys) (h1 : allOne ys) (hb : s.len ≤ 1000000000)
    (hk : ∀ (s' : SV) (e' : Ent), OwnsSl sz s' e' ys → s'.len = s.len → (∀ a v, ro a = some v → e'.id ≠ some a.block) → K s' ⟨own ++ [e'], ro⟩) :
    appVC Tryd.prog t (.slice none 0 0) (.slice s.a s.len s.cap) ⟨own, ro⟩ K := by
  refine appVC_of (s := ⟨none, 0, 0⟩) (s2 := s) g (ys := ys) hr.l hr.rdS h1 hr.n (A := own) (C := []) (en := ⟨none, [], 0⟩) (xs := []) (by simpa using Gh.phantom own [] ro 0) (OwnsSl.nil sz) (by simp only; omega) (fun s' e' o l _ _ hf => hk s' e' (by simpa using o) (by simpa using l) (fun a v hv hid => ?_))
  rcases hf _ hid with h | h
  · cases h
  · exact h.2 a v hv rfl
/-- a row of one-cell things, one of them another one, copied -/
theorem app_setG {α : Type} {f : α → Value} (hf1 : ∀ x, (f x).oneCell' = true) {t e : TypeId} (g : Grows Tryd.prog t e 1) {s : SV} {xs : List α} {i : Int} {v : α} {own : List Ent} {ro : Addr → Option Value} {K : SV → H → Prop} (hr : RdSl ⟨own, ro⟩ s (xs.map f)) (h0 : 0 ≤ i) (h1 : i < ((s.len : Nat) : Int)) (hb : s.len ≤ 1000000000)
    (hk : ∀ (s' : SV) (ro' : Addr → Option Value), (∀ a v, ro a = some v → ro' a = some v) → RdSl ⟨[], ro'⟩ s' ((xs.set i.toNat v).map f) → s'.len = s.len → K s' ⟨own, ro'⟩) :
    appVC Tryd.prog t (.slice none 0 0) (.slice s.a s.len s.cap) ⟨own, ro⟩ fun x1 h2 => ∃ b : Addr, x1.a = some b ∧ 0 ≤ i ∧ i < ((x1.len : Nat) : Int) ∧ H.wr h2 (Addr.add b (i.toNat * 1)) [f v] fun h4 => ∃ h5, Gh h4 h5 ∧ K x1 h5 := by
  refine app_newG g hr.rows (allOne_map hf1 xs) hb (fun s' e' o l hf => ?_)
  refine wr_atM hf1 own e' [] rfl (xs := xs) o h0 (by omega) (fun e2 o2 hid => ?_)
  have hf2 : ∀ a v, ro a = some v → e2.id ≠ some a.block := fun a v h => by rw [hid]; exact hf a v h
  exact ⟨⟨own, Go.Eng.frozen e2 ro⟩, by simpa using Gh.freeze own [] ro e2 hf2, hk _ _ (frozen_mono hf2) (RdSl.frozen o2) l⟩
theorem svV_one (s : SV) : (svV s).oneCell' = true := rfl
theorem ref3_reads_c {s x : SV} {xs : List SV} {i : Int} {own : List Ent} {ro : Addr → Option Value} {post : Value → H → Prop} (hr : RdSl ⟨own, ro⟩ s (xs.map svV)) (h0 : 0 ≤ i) (h1 : i < ((s.len : Nat) : Int)) (hb : s.len ≤ 1000000000)
    (hk : ∀ (s' : SV) (ro' : Addr → Option Value), (∀ a v, ro a = some v → ro' a = some v) → RdSl ⟨[], ro'⟩ s' ((xs.set i.toNat x).map svV) → s'.len = s.len → post (.slice s'.a s'.len s'.cap) ⟨own, ro'⟩) :
    SemCall Tryd.prog 44 (List.toArray [.slice s.a s.len s.cap, .int .i64 i, .slice x.a x.len x.cap]) ⟨own, ro⟩ post :=
  f44_call _ _ _ _ post (app_setG (f := svV) (v := x) svV_one grows_rwss hr h0 h1 hb (fun s' ro' m r l => hk s' ro' m r l))
theorem ref3_rows_c {s x : SV} {xs : List SV} {i : Int} {own : List Ent} {ro : Addr → Option Value} {post : Value → H → Prop} (hr : RdSl ⟨own, ro⟩ s (xs.map svV)) (h0 : 0 ≤ i) (h1 : i < ((s.len : Nat) : Int)) (hb : s.len ≤ 1000000000)
    (hk : ∀ (s' : SV) (ro' : Addr → Option Value), (∀ a v, ro a = some v → ro' a = some v) → RdSl ⟨[], ro'⟩ s' ((xs.set i.toNat x).map svV) → s'.len = s.len → post (.slice s'.a s'.len s'.cap) ⟨own, ro'⟩) :
    SemCall Tryd.prog 45 (List.toArray [.slice s.a s.len s.cap, .int .i64 i, .slice x.a x.len x.cap]) ⟨own, ro⟩ post :=
  f45_call _ _ _ _ post (app_setG (f := svV) (v := x) svV_one grows_rows hr h0 h1 hb (fun s' ro' m r l => hk s' ro' m r l))
/-! words -/
def RdWs (ro : Addr → Option Value) (s : SV) (ws : List SWord) : Prop := ∃ cs : List CW, cs.map (·.1) = ws ∧ RdRows ⟨[], ro⟩ 3 s (cs.flatMap cwV) ∧ ∀ c ∈ cs, CW.ok ro c
theorem RdWs.up {ro ro' : Addr → Option Value} {s : SV} {ws : List SWord} (h : RdWs ro s ws) (m : ∀ a v, ro a = some v → ro' a = some v) : RdWs ro' s ws := by
  obtain ⟨cs, h1, h2, h3⟩ := h
  exact ⟨cs, h1, h2.mono (by simp) m, fun c hc => (h3 c hc).up m⟩
theorem RdWs.nil (ro : Addr → Option Value) : RdWs ro ⟨none, 0, 0⟩ [] := ⟨[], rfl, ⟨rfl, fun _ => rfl, fun b hb => by cases hb⟩, by simp⟩
theorem RdWs.len {ro : Addr → Option Value} {s : SV} {ws : List SWord} (h : RdWs ro s ws) : s.len = ws.length := by
  obtain ⟨cs, h1, h2, _⟩ := h
  have hl := h2.l
  rw [rows_length cwV_len] at hl
  have : cs.length = s.len := Nat.eq_of_mul_eq_mul_right (by decide) hl
  rw [← h1, List.length_map, this]
/-- a word, as it lies -/
theorem RdWs.at {ro : Addr → Option Value} {s : SV} {ws : List SWord} (h : RdWs ro s ws) {k : Nat} {w : SWord} (hw : ws[k]? = some w) :
    ∃ (b : Addr) (c : CW), s.a = some b ∧ c.1 = w ∧ CW.ok ro c ∧ ∀ {own : List Ent} {ro' : Addr → Option Value}, (∀ a v, ro a = some v → ro' a = some v) → ∀ {i : Int}, i = (k : Int) → ∀ {j : Nat} {v : Value}, (cwV c)[j]? = some v → H.rd ⟨own, ro'⟩ (Addr.add (Addr.add b (i.toNat * 3)) j) v := by
  have hlen := h.len
  obtain ⟨cs, h1, h2, h3⟩ := h
  have hk := (List.getElem?_eq_some_iff.1 hw).1
  obtain ⟨b, c, hb, hc, hrd⟩ := h2.row cwV_len (by decide) (i := (k : Int)) (by omega) (by omega)
  rw [Int.toNat_natCast] at hc hrd
  refine ⟨b, c, hb, ?_, h3 c (List.mem_of_getElem? hc), fun {own ro'} m {i} hi {j v} hv => ?_⟩
  · rw [← h1, List.getElem?_map, hc] at hw; exact Option.some.inj hw
  · subst hi
    rw [Int.toNat_natCast]
    obtain ⟨b', c', hb', hc', hrd'⟩ := (h2.mono (h2 := ⟨own, ro'⟩) (by simp) m).row cwV_len (by decide) (i := (k : Int)) (by omega) (by omega)
    rw [Int.toNat_natCast] at hc' hrd'
    rw [hb] at hb'; rw [hc] at hc'
    cases hb'; cases hc'
    exact hrd' j v hv
theorem ref3_behind_c {s : SV} {ws : List SWord} {c : CW} {own : List Ent} {ro : Addr → Option Value} {post : Value → H → Prop} (hr : RdWs ro s ws) (hc : CW.ok ro c) (hb : s.len + 1 ≤ 1000000000)
    (hk : ∀ (s' : SV) (ro' : Addr → Option Value), (∀ a v, ro a = some v → ro' a = some v) → RdWs ro' s' (ws ++ [c.1]) → post (.slice s'.a s'.len s'.cap) ⟨own, ro'⟩) :
    SemCall Tryd.prog 47 (List.toArray [.slice s.a s.len s.cap, .agg (List.toArray (cwV c))]) ⟨own, ro⟩ post := by
  refine f47_call _ c.1.value c.1.turn c.2 _ post ?_
  obtain ⟨cs, h1, h2, h3⟩ := hr
  intro r1 _
  refine app_newG grows_rws (h2.mono (by simp) (fun _ _ h => h)) (allOne_words cs) (by omega) (fun s' e' o l hf => ?_)
  have m1 : ∀ {Z : List Ent}, (⟨some r1, cwV c, 3⟩ : Ent) ∈ own ++ [⟨some r1, cwV c, 3⟩] ++ Z := by simp
  refine ⟨c.1.value, by rw [add_mk']; exact rdo ⟨some r1, cwV c, 3⟩ m1 rfl rfl, c.1.turn, by rw [add_mk']; exact rdo ⟨some r1, cwV c, 3⟩ m1 rfl rfl, c.2, by rw [add_mk']; exact rdo ⟨some r1, cwV c, 3⟩ m1 rfl rfl, ?_⟩
  intro r _
  refine appVC_of (s2 := ⟨some (Addr.mk r 0 none), 1, 1⟩) grows_rws (ys := cwV c) (by simp [cwV]) ?_ ⟨rfl, rfl, rfl, trivial⟩ (by simp) (A := own ++ [⟨some r1, cwV c, 3⟩]) (C := []) (en := e') (ro := ro) (Gh.drop (by simp [cwV])) o (by simp only; omega) (fun s2 e2 o2 l2 _ _ hid => ?_)
  · intro j v hv
    rw [add_mk']
    exact rdo ⟨some r, cwV c, 3⟩ (by simp [cwV]) rfl (by simpa using hv)
  have hf2 : ∀ a v, ro a = some v → e2.id ≠ some a.block := fun a v h hb => by
    rcases hid _ hb with h1 | h1
    · exact hf a v h h1
    · exact h1.2 a v h rfl
  have m := frozen_mono hf2
  refine ⟨⟨own, Go.Eng.frozen e2 ro⟩, (Gh.freeze (own ++ [⟨some r1, cwV c, 3⟩]) [] ro e2 hf2).trans (Gh.drop (by simp)), hk s2 _ m ⟨cs ++ [c], by simp [h1], ?_, fun x hx => ?_⟩⟩
  · have := RdRows.frozen (ro := ro) o2
    rwa [List.flatMap_append, List.flatMap_singleton]
  · rcases List.mem_append.1 hx with hx | hx
    · exact (h3 x hx).up m
    · simp only [List.mem_singleton] at hx; subst hx; exact hc.up m
/-! the document, its slices -/
structure BS where
  W : SV
  A : SV
  V : SV
  R : SV
  F : SV
  L : SV
  M : SV
  S : SV
def bsC (S : BS) : List Value := bdC S.W S.A S.V S.R S.F S.L S.M S.S
def bsE (r : Nat) (S : BS) : Ent := bdE r S.W S.A S.V S.R S.F S.L S.M S.S
def zV : SV := ⟨none, 0, 0⟩
def bsZ (r : Nat) : Ent := bdE r zV zV zV zV zV zV zV zV
theorem bs_w {own C : List Ent} {ro : Addr → Option Value} {r1 : Nat} {S : BS} {j : Nat} {v : Value} {K : H → Prop} (S' : BS) (h1 : v.oneCell' = true) (hj : 0 + j + 1 ≤ 8) (hs : spl (bsC S) (0 + j) [v] = bsC S')
    (hK : K ⟨own ++ bsE r1 S' :: C, ro⟩) : H.wr ⟨own ++ bsE r1 S :: C, ro⟩ (Addr.add (Addr.mk r1 0 none) j) [v] K :=
  bd_w S'.W S'.A S'.V S'.R S'.F S'.L S'.M S'.S h1 hj hs hK
theorem bs_w0 {own C : List Ent} {ro : Addr → Option Value} {r1 : Nat} {S : BS} {v : Value} {K : H → Prop} (S' : BS) (h1 : v.oneCell' = true) (hs : spl (bsC S) (0 + 0) [v] = bsC S')
    (hK : K ⟨own ++ bsE r1 S' :: C, ro⟩) : H.wr ⟨own ++ bsE r1 S :: C, ro⟩ (Addr.add (Addr.mk r1 0 none) 0) [v] K := bs_w S' h1 (by decide) hs hK
structure BdR (ro : Addr → Option Value) (n : Nat) (b : Board) (S : BS) : Prop where
  w : RdWs ro S.W b.words
  a : RdSl ⟨[], ro⟩ S.A (ints (b.hands.map (·.ln)))
  v : ∃ vs : List Int, vs.length = n ∧ RdSl ⟨[], ro⟩ S.V (ints vs) ∧ ∀ (p : Nat) h, b.hands[p]? = some h → h.ln ≠ 0 → vs[p]? = some h.value
  r : ∃ rs : List Bool, rs.length = n ∧ RdSl ⟨[], ro⟩ S.R (rs.map Value.bool) ∧ ∀ (p : Nat) h, b.hands[p]? = some h → h.ln ≠ 0 → rs[p]? = some h.writes
  f : ∃ fs : List SV, fs.length = n ∧ RdSl ⟨[], ro⟩ S.F (fs.map svV) ∧ ∀ (p : Nat) h, b.hands[p]? = some h → h.ln = 1 ∨ h.ln = 2 → ∃ s, fs[p]? = some s ∧ RdWs ro s h.first
  l : ∃ fs : List SV, fs.length = n ∧ RdSl ⟨[], ro⟩ S.L (fs.map svV) ∧ ∀ (p : Nat) h, b.hands[p]? = some h → h.ln = 1 ∨ h.ln = 2 → ∃ s, fs[p]? = some s ∧ RdWs ro s h.last
  m : ∃ fs : List SV, fs.length = n ∧ RdSl ⟨[], ro⟩ S.M (fs.map svV) ∧ ∀ (p : Nat) h, b.hands[p]? = some h → h.ln = 1 ∨ h.ln = 2 → ∃ s, fs[p]? = some s ∧ RdSl ⟨[], ro⟩ s (ints h.moved)
  s : ∃ fs : List SV, fs.length = n ∧ RdSl ⟨[], ro⟩ S.S (fs.map svV) ∧ ∀ (p : Nat) h, b.hands[p]? = some h → h.ln = 3 → ∃ s, fs[p]? = some s ∧ RdSl ⟨[], ro⟩ s (ints h.moved)
theorem BdR.up {ro ro' : Addr → Option Value} {n : Nat} {b : Board} {S : BS} (r : BdR ro n b S) (m : ∀ a v, ro a = some v → ro' a = some v) : BdR ro' n b S := by
  obtain ⟨w, a, ⟨vs, v1, v2, v3⟩, ⟨rs, r1, r2, r3⟩, ⟨fs, f1, f2, f3⟩, ⟨ls, l1, l2, l3⟩, ⟨ms, m1, m2, m3⟩, ⟨ss, s1, s2, s3⟩⟩ := r
  refine ⟨w.up m, a.mono (by simp) m, ⟨vs, v1, v2.mono (by simp) m, v3⟩, ⟨rs, r1, r2.mono (by simp) m, r3⟩, ⟨fs, f1, f2.mono (by simp) m, fun p h hp hl => ?_⟩, ⟨ls, l1, l2.mono (by simp) m, fun p h hp hl => ?_⟩, ⟨ms, m1, m2.mono (by simp) m, fun p h hp hl => ?_⟩, ⟨ss, s1, s2.mono (by simp) m, fun p h hp hl => ?_⟩⟩
  · obtain ⟨s, e1, e2⟩ := f3 p h hp hl; exact ⟨s, e1, e2.up m⟩
  · obtain ⟨s, e1, e2⟩ := l3 p h hp hl; exact ⟨s, e1, e2.up m⟩
  · obtain ⟨s, e1, e2⟩ := m3 p h hp hl; exact ⟨s, e1, e2.mono (by simp) m⟩
  · obtain ⟨s, e1, e2⟩ := s3 p h hp hl; exact ⟨s, e1, e2.mono (by simp) m⟩
/-- a thing of a row -/
theorem at_g {α : Type} {f : α → Value} {xs : List α} {s : SV} {own : List Ent} {ro ro' : Addr → Option Value} (r : RdSl ⟨[], ro⟩ s (xs.map f)) (m : ∀ a v, ro a = some v → ro' a = some v) {k : Nat} {x : α} (hx : xs[k]? = some x) {K : α → Prop} (hK : K x) :
    ∃ b : Addr, s.a = some b ∧ 0 ≤ (k : Int) ∧ (k : Int) < ((s.len : Nat) : Int) ∧ ∃ x : α, H.rd ⟨own, ro'⟩ (Addr.add (Addr.add b (((k : Int)).toNat * 1)) 0) (f x) ∧ K x := by
  have hl := r.len
  rw [List.length_map] at hl
  have := (List.getElem?_eq_some_iff.1 hx).1
  refine RdSl.idxM (f := f) (h := ⟨own, ro'⟩) (xs := xs) (r.mono (by simp) m) (by omega) (by omega) (fun y hy => ?_)
  rw [Int.toNat_natCast, hx] at hy
  cases hy; exact hK
theorem at_v {xs : List SV} {s : SV} {own : List Ent} {ro ro' : Addr → Option Value} (r : RdSl ⟨[], ro⟩ s (xs.map svV)) (m : ∀ a v, ro a = some v → ro' a = some v) {k : Nat} {x : SV} (hx : xs[k]? = some x) {K : SV → Prop} (hK : K x) :
    ∃ b : Addr, s.a = some b ∧ 0 ≤ (k : Int) ∧ (k : Int) < ((s.len : Nat) : Int) ∧ ∃ x : SV, H.rd ⟨own, ro'⟩ (Addr.add (Addr.add b (((k : Int)).toNat * 1)) 0) (.slice x.a x.len x.cap) ∧ K x := at_g r m hx hK
theorem at_i {xs : List Int} {s : SV} {own : List Ent} {ro ro' : Addr → Option Value} (r : RdSl ⟨[], ro⟩ s (ints xs)) (m : ∀ a v, ro a = some v → ro' a = some v) {k : Nat} {x : Int} (hx : xs[k]? = some x) {i : Int} (hi : i = (k : Int)) {K : Int → Prop} (hK : K x) :
    ∃ b : Addr, s.a = some b ∧ 0 ≤ i ∧ i < ((s.len : Nat) : Int) ∧ ∃ x : Int, H.rd ⟨own, ro'⟩ (Addr.add (Addr.add b (i.toNat * 1)) 0) (.int .i64 x) ∧ K x := by
  subst hi
  have hl := r.len
  rw [ints_length] at hl
  have := (List.getElem?_eq_some_iff.1 hx).1
  refine RdSl.idx (h := ⟨own, ro'⟩) (r.mono (by simp) m) (by omega) (by omega) (fun y hy => ?_)
  rw [Int.toNat_natCast, hx] at hy
  cases hy; exact hK
/-- a field of hands, one of them another one -/
theorem fld_set {α β : Type} {P : SHand → Prop} {Q : β → SHand → Prop} {hs : List SHand} {xs : List β} {q : Nat} {y : SHand} {x : β} (h0 : ∀ (p : Nat) h, hs[p]? = some h → P h → ∃ s, xs[p]? = some s ∧ Q s h) (hq : q < xs.length) (hx : P y → Q x y) (_ : α) :
    ∀ (p : Nat) h, (hs.set q y)[p]? = some h → P h → ∃ s, (xs.set q x)[p]? = some s ∧ Q s h := by
  intro p h hp hP
  rcases set_cases hp with ⟨e1, e2⟩ | ⟨e1, e2⟩
  · subst e1; subst e2
    exact ⟨x, List.getElem?_set_self hq, hx hP⟩
  · obtain ⟨s, a1, a2⟩ := h0 p h e2 hP
    exact ⟨s, by rw [List.getElem?_set_ne (fun e => e1 e.symm)]; exact a1, a2⟩
theorem fld_keep {β : Type} {P : SHand → Prop} {Q : β → SHand → Prop} {hs : List SHand} {xs : List β} {q : Nat} {y : SHand} (h0 : ∀ (p : Nat) h, hs[p]? = some h → P h → ∃ s, xs[p]? = some s ∧ Q s h) (hx : P y → ∃ s, xs[q]? = some s ∧ Q s y) :
    ∀ (p : Nat) h, (hs.set q y)[p]? = some h → P h → ∃ s, xs[p]? = some s ∧ Q s h := by
  intro p h hp hP
  rcases set_cases hp with ⟨e1, e2⟩ | ⟨e1, e2⟩
  · subst e1; subst e2; exact hx hP
  · exact h0 p h e2 hP
end Go.Proofs.YtnecppjgcbhnaaaDoor
