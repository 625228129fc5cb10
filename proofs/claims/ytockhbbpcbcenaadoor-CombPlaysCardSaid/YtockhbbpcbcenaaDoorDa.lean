import Derived.Test.YtockhbbpcbcenaaDoorCs
import Derived.Test.YtockhbbpcbcenaaDoorEngJ
import Derived.Test.YtockhbbpcbcenaaDoorEngL
namespace Go.Proofs.YtockhbbpcbcenaaDoor
open Go.Eng
set_option maxRecDepth 20000
def rm {α : Type} (n : Nat) (f : Nat → α) : List α := (List.range n).map f
theorem rm_len {α : Type} (n : Nat) (f : Nat → α) : (rm n f).length = n := by simp [rm]
theorem rm_get {α : Type} {n k : Nat} (f : Nat → α) (h : k < n) : (rm n f)[k]? = some (f k) := by simp [rm, h]
theorem rm_succ {α : Type} (n : Nat) (f : Nat → α) : rm (n + 1) f = rm n f ++ [f n] := by simp [rm, List.range_succ]
def updN {α : Type} (f : Nat → α) (q : Nat) (v : α) : Nat → α := fun p => if p = q then v else f p
theorem updN_same {α : Type} (f : Nat → α) (q : Nat) (v : α) : updN f q v q = v := if_pos rfl
theorem updN_ne {α : Type} {f : Nat → α} {q p : Nat} {v : α} (h : p ≠ q) : updN f q v p = f p := if_neg h
theorem rm_set {α : Type} (n k : Nat) (f : Nat → α) (v : α) : (rm n f).set k v = rm n (updN f k v) := by
  refine List.ext_getElem? fun i => ?_
  by_cases hi : i < n
  · rw [rm_get _ hi]
    by_cases hk : k = i
    · subst hk; rw [List.getElem?_set_self (by rw [rm_len]; exact hi), updN_same]
    · rw [List.getElem?_set_ne hk, rm_get _ hi, updN_ne (Ne.symm hk)]
  · rw [List.getElem?_eq_none (by simp [rm_len]; omega), List.getElem?_eq_none (by simp [rm_len]; omega)]
theorem updN_cases {α : Type} {f : Nat → α} {q : Nat} {v : α} (p : Nat) : (p = q ∧ updN f q v p = v) ∨ (p ≠ q ∧ updN f q v p = f p) := by
  by_cases h : p = q
  · subst h; exact .inl ⟨rfl, updN_same _ _ _⟩
  · exact .inr ⟨h, updN_ne h⟩
theorem gI_rm {n k : Nat} {f : Nat → Int} (h : k < n) : gI (rm n f) k = f k := by unfold gI; rw [rm_get _ h]; rfl
theorem rm_spl {n o : Nat} {f : Nat → Int} {vs : List Int} (h : o + vs.length ≤ n) : splI (rm n f) o vs = rm n fun k => if o ≤ k ∧ k < o + vs.length then gI vs (k - o) else f k := by
  refine List.ext_getElem? fun k => ?_
  have hl : (splI (rm n f) o vs).length = n := by rw [splI_length (by rw [rm_len]; exact h), rm_len]
  by_cases hk : k < n
  · rw [rm_get _ hk]
    have e := gI_spl (m := rm n f) (vs := vs) (o := o) (by rw [rm_len]; exact h) k
    rw [gI_rm hk] at e
    unfold gI at e
    rw [List.getElem?_eq_getElem (by omega)] at e ⊢
    exact congrArg some e
  · rw [List.getElem?_eq_none (by omega), List.getElem?_eq_none (by rw [rm_len]; omega)]
theorem idxI {h : H} {s : SV} {xs : List Int} (r : RdSl h s (ints xs)) {i : Int} (h0 : 0 ≤ i) (h1 : i < (xs.length : Int)) {K : Int → Prop} (hK : K (gI xs i.toNat)) :
    ∃ b : Addr, s.a = some b ∧ 0 ≤ i ∧ i < ((s.len : Nat) : Int) ∧ ∃ x : Int, H.rd h (Addr.add (Addr.add b (i.toNat * 1)) 0) (Value.int .i64 x) ∧ K x := by
  have hl := r.len
  rw [ints_length] at hl
  refine r.idx h0 (by omega) fun x hx => ?_
  have : gI xs i.toNat = x := by unfold gI; rw [hx]; rfl
  rw [← this]; exact hK
theorem idx0 {h : H} {s : SV} {xs : List Int} (r : RdSl h s (ints xs)) (h1 : 0 < xs.length) {K : Int → Prop} (hK : K (gI xs 0)) :
    ∃ b : Addr, s.a = some b ∧ 0 ≤ (0 : Int) ∧ (0 : Int) < ((s.len : Nat) : Int) ∧ ∃ x : Int, H.rd h (Addr.add (Addr.add b ((0 : Int).toNat * 1)) 0) (Value.int .i64 x) ∧ K x := idxI r (by omega) (by omega) hK
theorem idx1 {h : H} {s : SV} {xs : List Int} (r : RdSl h s (ints xs)) (h1 : 1 < xs.length) {K : Int → Prop} (hK : K (gI xs 1)) :
    ∃ b : Addr, s.a = some b ∧ 0 ≤ (1 : Int) ∧ (1 : Int) < ((s.len : Nat) : Int) ∧ ∃ x : Int, H.rd h (Addr.add (Addr.add b ((1 : Int).toNat * 1)) 0) (Value.int .i64 x) ∧ K x := idxI r (by omega) (by omega) hK
theorem gI_of {m : List Int} {k : Nat} {x : Int} (h : m[k]? = some x) : gI m k = x := by unfold gI; rw [h]; rfl
theorem gI_ex {m : List Int} {k : Nat} (h : k < m.length) : m[k]? = some (gI m k) := by unfold gI; rw [List.getElem?_eq_getElem h]; rfl
theorem rdm {h h2 : H} {a : Addr} {v : Value} (r : H.rd h a v) (hs : ∀ e ∈ h.own, e ∈ h2.own) (hr : ∀ a v, h.ro a = some v → h2.ro a = some v) : H.rd h2 a v := ⟨r.1, r.2.elim (fun ⟨e, h1, h2⟩ => .inl ⟨e, hs e h1, h2⟩) (fun h => .inr (hr _ _ h))⟩
structure OwPar (xs : List Ent) (ss : List SV) (ls : List (List Int)) : Prop where
  l1 : xs.length = ss.length
  l2 : ss.length = ls.length
  g : ∀ (j : Nat) e s l, xs[j]? = some e → ss[j]? = some s → ls[j]? = some l → OwnsSl 1 s e (ints l)
theorem OwPar.nil : OwPar [] [] [] := ⟨rfl, rfl, by simp⟩
theorem OwPar.app {xs : List Ent} {ss : List SV} {ls : List (List Int)} (h : OwPar xs ss ls) {s : SV} {l : List Int} {e : Ent} (hr : OwnsSl 1 s e (ints l)) : OwPar (xs ++ [e]) (ss ++ [s]) (ls ++ [l]) := by
  refine ⟨by simp [h.l1], by simp [h.l2], fun j e' s' l' a b c => ?_⟩
  have := h.l1
  have := h.l2
  rcases app_cases a with ⟨a1, a2⟩ | ⟨a1, rfl⟩ <;> rcases app_cases b with ⟨b1, b2⟩ | ⟨b1, rfl⟩ <;> rcases app_cases c with ⟨c1, c2⟩ | ⟨c1, rfl⟩
  · exact h.g j e' s' l' a2 b2 c2
  · omega
  · omega
  · omega
  · omega
  · omega
  · omega
  · exact hr
theorem OwPar.set {xs : List Ent} {ss : List SV} {ls : List (List Int)} (h : OwPar xs ss ls) {p : Nat} {s : SV} {l : List Int} {e : Ent} (hs : ss[p]? = some s) (hr : OwnsSl 1 s e (ints l)) : OwPar (xs.set p e) ss (ls.set p l) := by
  refine ⟨by simp [h.l1], by simp [h.l2], fun j e' s' l' a b c => ?_⟩
  rcases set_cases a with ⟨a1, rfl⟩ | ⟨a1, a2⟩ <;> rcases set_cases c with ⟨c1, rfl⟩ | ⟨c1, c2⟩
  · subst a1; rw [hs] at b; cases b; exact hr
  · exact absurd a1 c1
  · exact absurd c1 a1
  · exact h.g j e' s' l' a2 b c2
theorem OwPar.rd {xs : List Ent} {ss : List SV} {ls : List (List Int)} (h : OwPar xs ss ls) {hh : H} {s : SV} (hs : RdSl hh s (ss.map svV)) (he : ∀ e ∈ xs, ∀ s xs, OwnsSl 1 s e xs → RdSl hh s xs) : ∃ rc, RdRowsOf hh s rc ∧ rc.map Prod.snd = ls := by
  refine ⟨ss.zip ls, ⟨?_, fun r hr => ?_⟩, List.map_snd_zip (by have := h.l2; omega)⟩
  · have e : (ss.zip ls).map (fun r => Value.slice r.1.a r.1.len r.1.cap) = ss.map svV := by
      conv => rhs; rw [← List.map_fst_zip (l₁ := ss) (l₂ := ls) (by have := h.l2; omega)]
      rw [List.map_map]; rfl
    rw [e]; exact hs
  · obtain ⟨j, hj⟩ := List.mem_iff_getElem?.1 hr
    rw [List.getElem?_zip_eq_some] at hj
    have hlt := (List.getElem?_eq_some_iff.1 hj.1).1
    obtain ⟨e, hx⟩ : ∃ e, xs[j]? = some e := ⟨_, List.getElem?_eq_getElem (by have := h.l1; omega)⟩
    exact he _ (List.mem_of_getElem? hx) _ _ (h.g j _ _ _ hx hj.1 hj.2)
set_option maxRecDepth 20000 in
theorem grows_rows : Grows Tryd.prog 22 29 1 := ⟨rfl, rfl, by decide, by decide, ⟨_, rfl, rfl, ⟨rfl, trivial⟩⟩⟩
theorem allOne_svV (l : List SV) : allOne (l.map svV) := allOne_iff.2 fun v hv => by
  obtain ⟨s, _, rfl⟩ := List.mem_map.1 hv
  rfl
/-! ### the struct latchgarthref4.Comb, boxed -/
def ccC (a0 : Int) (a1 : SV) (a2 : SV) (a3 : Int) (a4 : Int) (a5 : SV) (a6 : SV) (a7 : SV) (a8 : SV) : List Value := [.int .i64 a0, .slice a1.a a1.len a1.cap, .slice a2.a a2.len a2.cap, .int .i64 a3, .int .i64 a4, .slice a5.a a5.len a5.cap, .slice a6.a a6.len a6.cap, .slice a7.a a7.len a7.cap, .slice a8.a a8.len a8.cap]
def ccE (r : Nat) (a0 : Int) (a1 : SV) (a2 : SV) (a3 : Int) (a4 : Int) (a5 : SV) (a6 : SV) (a7 : SV) (a8 : SV) : Ent := ⟨some r, ccC a0 a1 a2 a3 a4 a5 a6 a7 a8, 9⟩
theorem cc_one {a0 : Int} {a1 : SV} {a2 : SV} {a3 : Int} {a4 : Int} {a5 : SV} {a6 : SV} {a7 : SV} {a8 : SV} : allOne (ccC a0 a1 a2 a3 a4 a5 a6 a7 a8) := ⟨rfl, rfl, rfl, rfl, rfl, rfl, rfl, rfl, rfl, trivial⟩
theorem cc_get {h : H} {r : Nat} {a0 : Int} {a1 : SV} {a2 : SV} {a3 : Int} {a4 : Int} {a5 : SV} {a6 : SV} {a7 : SV} {a8 : SV} {K : Int → SV → SV → Int → Int → SV → SV → SV → SV → Prop} (he : ccE r a0 a1 a2 a3 a4 a5 a6 a7 a8 ∈ h.own) (hK : K a0 a1 a2 a3 a4 a5 a6 a7 a8) :
    ∃ x0 : Int, H.rd h (Addr.add (Addr.mk r 0 none) 0) (.int .i64 x0) ∧ ∃ x1 : SV, H.rd h (Addr.add (Addr.mk r 0 none) 1) (.slice x1.a x1.len x1.cap) ∧ ∃ x2 : SV, H.rd h (Addr.add (Addr.mk r 0 none) 2) (.slice x2.a x2.len x2.cap) ∧ ∃ x3 : Int, H.rd h (Addr.add (Addr.mk r 0 none) 3) (.int .i64 x3) ∧ ∃ x4 : Int, H.rd h (Addr.add (Addr.mk r 0 none) 4) (.int .i64 x4) ∧ ∃ x5 : SV, H.rd h (Addr.add (Addr.mk r 0 none) 5) (.slice x5.a x5.len x5.cap) ∧ ∃ x6 : SV, H.rd h (Addr.add (Addr.mk r 0 none) 6) (.slice x6.a x6.len x6.cap) ∧ ∃ x7 : SV, H.rd h (Addr.add (Addr.mk r 0 none) 7) (.slice x7.a x7.len x7.cap) ∧ ∃ x8 : SV, H.rd h (Addr.add (Addr.mk r 0 none) 8) (.slice x8.a x8.len x8.cap) ∧ K x0 x1 x2 x3 x4 x5 x6 x7 x8 :=
  rI _ he rfl rfl (rS _ he rfl rfl (rS _ he rfl rfl (rI _ he rfl rfl (rI _ he rfl rfl (rS _ he rfl rfl (rS _ he rfl rfl (rS _ he rfl rfl (rS _ he rfl rfl (hK)))))))))
theorem cc_put {own : List Ent} {ro : Addr → Option Value} {r : Nat} {a0 : Int} {a1 : SV} {a2 : SV} {a3 : Int} {a4 : Int} {a5 : SV} {a6 : SV} {a7 : SV} {a8 : SV} {z0 : Int} {z1 : SV} {z2 : SV} {z3 : Int} {z4 : Int} {z5 : SV} {z6 : SV} {z7 : SV} {z8 : SV} {K : H → Prop} (A C : List Ent) (hown : own = A ++ ccE r z0 z1 z2 z3 z4 z5 z6 z7 z8 :: C) (hK : K ⟨A ++ ccE r a0 a1 a2 a3 a4 a5 a6 a7 a8 :: C, ro⟩) :
    (ccC a0 a1 a2 a3 a4 a5 a6 a7 a8).length = 9 ∧ (Program.underlying Tryd.prog 31).isSome = true ∧ H.wr ⟨own, ro⟩ (Addr.mk r 0 none) (ccC a0 a1 a2 a3 a4 a5 a6 a7 a8) K :=
  ⟨rfl, rfl, wro A (ccE r z0 z1 z2 z3 z4 z5 z6 z7 z8) C cc_one hown rfl (Nat.le_refl _) hK⟩
theorem cc_fin {own Y : List Ent} {ro : Addr → Option Value} {r1 r3 : Nat} {a0 : Int} {a1 : SV} {a2 : SV} {a3 : Int} {a4 : Int} {a5 : SV} {a6 : SV} {a7 : SV} {a8 : SV} {z0 : Int} {z1 : SV} {z2 : SV} {z3 : Int} {z4 : Int} {z5 : SV} {z6 : SV} {z7 : SV} {z8 : SV} {Q : Int → SV → SV → Int → Int → SV → SV → SV → SV → Value} {post : Value → H → Prop} (hp : post (Q a0 a1 a2 a3 a4 a5 a6 a7 a8) ⟨own, ro⟩) :
    ∃ x0 : Int, H.rd ⟨own ++ ccE r1 a0 a1 a2 a3 a4 a5 a6 a7 a8 :: ccE r3 z0 z1 z2 z3 z4 z5 z6 z7 z8 :: Y, ro⟩ (Addr.add (Addr.mk r1 0 none) 0) (.int .i64 x0) ∧ ∃ x1 : SV, H.rd ⟨own ++ ccE r1 a0 a1 a2 a3 a4 a5 a6 a7 a8 :: ccE r3 z0 z1 z2 z3 z4 z5 z6 z7 z8 :: Y, ro⟩ (Addr.add (Addr.mk r1 0 none) 1) (.slice x1.a x1.len x1.cap) ∧ ∃ x2 : SV, H.rd ⟨own ++ ccE r1 a0 a1 a2 a3 a4 a5 a6 a7 a8 :: ccE r3 z0 z1 z2 z3 z4 z5 z6 z7 z8 :: Y, ro⟩ (Addr.add (Addr.mk r1 0 none) 2) (.slice x2.a x2.len x2.cap) ∧ ∃ x3 : Int, H.rd ⟨own ++ ccE r1 a0 a1 a2 a3 a4 a5 a6 a7 a8 :: ccE r3 z0 z1 z2 z3 z4 z5 z6 z7 z8 :: Y, ro⟩ (Addr.add (Addr.mk r1 0 none) 3) (.int .i64 x3) ∧ ∃ x4 : Int, H.rd ⟨own ++ ccE r1 a0 a1 a2 a3 a4 a5 a6 a7 a8 :: ccE r3 z0 z1 z2 z3 z4 z5 z6 z7 z8 :: Y, ro⟩ (Addr.add (Addr.mk r1 0 none) 4) (.int .i64 x4) ∧ ∃ x5 : SV, H.rd ⟨own ++ ccE r1 a0 a1 a2 a3 a4 a5 a6 a7 a8 :: ccE r3 z0 z1 z2 z3 z4 z5 z6 z7 z8 :: Y, ro⟩ (Addr.add (Addr.mk r1 0 none) 5) (.slice x5.a x5.len x5.cap) ∧ ∃ x6 : SV, H.rd ⟨own ++ ccE r1 a0 a1 a2 a3 a4 a5 a6 a7 a8 :: ccE r3 z0 z1 z2 z3 z4 z5 z6 z7 z8 :: Y, ro⟩ (Addr.add (Addr.mk r1 0 none) 6) (.slice x6.a x6.len x6.cap) ∧ ∃ x7 : SV, H.rd ⟨own ++ ccE r1 a0 a1 a2 a3 a4 a5 a6 a7 a8 :: ccE r3 z0 z1 z2 z3 z4 z5 z6 z7 z8 :: Y, ro⟩ (Addr.add (Addr.mk r1 0 none) 7) (.slice x7.a x7.len x7.cap) ∧ ∃ x8 : SV, H.rd ⟨own ++ ccE r1 a0 a1 a2 a3 a4 a5 a6 a7 a8 :: ccE r3 z0 z1 z2 z3 z4 z5 z6 z7 z8 :: Y, ro⟩ (Addr.add (Addr.mk r1 0 none) 8) (.slice x8.a x8.len x8.cap) ∧ 
    (ccC x0 x1 x2 x3 x4 x5 x6 x7 x8).length = 9 ∧ (Program.underlying Tryd.prog 31).isSome = true ∧ H.wr ⟨own ++ ccE r1 a0 a1 a2 a3 a4 a5 a6 a7 a8 :: ccE r3 z0 z1 z2 z3 z4 z5 z6 z7 z8 :: Y, ro⟩ (Addr.mk r3 0 none) (ccC x0 x1 x2 x3 x4 x5 x6 x7 x8) fun h =>
    ∃ y0 : Int, H.rd h (Addr.add (Addr.mk r3 0 none) 0) (.int .i64 y0) ∧ ∃ y1 : SV, H.rd h (Addr.add (Addr.mk r3 0 none) 1) (.slice y1.a y1.len y1.cap) ∧ ∃ y2 : SV, H.rd h (Addr.add (Addr.mk r3 0 none) 2) (.slice y2.a y2.len y2.cap) ∧ ∃ y3 : Int, H.rd h (Addr.add (Addr.mk r3 0 none) 3) (.int .i64 y3) ∧ ∃ y4 : Int, H.rd h (Addr.add (Addr.mk r3 0 none) 4) (.int .i64 y4) ∧ ∃ y5 : SV, H.rd h (Addr.add (Addr.mk r3 0 none) 5) (.slice y5.a y5.len y5.cap) ∧ ∃ y6 : SV, H.rd h (Addr.add (Addr.mk r3 0 none) 6) (.slice y6.a y6.len y6.cap) ∧ ∃ y7 : SV, H.rd h (Addr.add (Addr.mk r3 0 none) 7) (.slice y7.a y7.len y7.cap) ∧ ∃ y8 : SV, H.rd h (Addr.add (Addr.mk r3 0 none) 8) (.slice y8.a y8.len y8.cap) ∧ VRet h (Q y0 y1 y2 y3 y4 y5 y6 y7 y8) post :=
  cc_get (a0 := a0) (a1 := a1) (a2 := a2) (a3 := a3) (a4 := a4) (a5 := a5) (a6 := a6) (a7 := a7) (a8 := a8) (by simp) (cc_put (z0 := z0) (z1 := z1) (z2 := z2) (z3 := z3) (z4 := z4) (z5 := z5) (z6 := z6) (z7 := z7) (z8 := z8) (own ++ [ccE r1 a0 a1 a2 a3 a4 a5 a6 a7 a8]) Y (by simp) (cc_get (a0 := a0) (a1 := a1) (a2 := a2) (a3 := a3) (a4 := a4) (a5 := a5) (a6 := a6) (a7 := a7) (a8 := a8) (by simp) ⟨⟨own, ro⟩, Gh.drop (by simp), hp⟩))
theorem cc_finY {own Y : List Ent} {ro : Addr → Option Value} {r1 r3 : Nat} {a0 : Int} {a1 : SV} {a2 : SV} {a3 : Int} {a4 : Int} {a5 : SV} {a6 : SV} {a7 : SV} {a8 : SV} {z0 : Int} {z1 : SV} {z2 : SV} {z3 : Int} {z4 : Int} {z5 : SV} {z6 : SV} {z7 : SV} {z8 : SV} {Q : Int → SV → SV → Int → Int → SV → SV → SV → SV → Value} {post : Value → H → Prop} (hp : VRet ⟨(own ++ [ccE r1 a0 a1 a2 a3 a4 a5 a6 a7 a8]) ++ ccE r3 a0 a1 a2 a3 a4 a5 a6 a7 a8 :: Y, ro⟩ (Q a0 a1 a2 a3 a4 a5 a6 a7 a8) post) :
    ∃ x0 : Int, H.rd ⟨own ++ ccE r1 a0 a1 a2 a3 a4 a5 a6 a7 a8 :: ccE r3 z0 z1 z2 z3 z4 z5 z6 z7 z8 :: Y, ro⟩ (Addr.add (Addr.mk r1 0 none) 0) (.int .i64 x0) ∧ ∃ x1 : SV, H.rd ⟨own ++ ccE r1 a0 a1 a2 a3 a4 a5 a6 a7 a8 :: ccE r3 z0 z1 z2 z3 z4 z5 z6 z7 z8 :: Y, ro⟩ (Addr.add (Addr.mk r1 0 none) 1) (.slice x1.a x1.len x1.cap) ∧ ∃ x2 : SV, H.rd ⟨own ++ ccE r1 a0 a1 a2 a3 a4 a5 a6 a7 a8 :: ccE r3 z0 z1 z2 z3 z4 z5 z6 z7 z8 :: Y, ro⟩ (Addr.add (Addr.mk r1 0 none) 2) (.slice x2.a x2.len x2.cap) ∧ ∃ x3 : Int, H.rd ⟨own ++ ccE r1 a0 a1 a2 a3 a4 a5 a6 a7 a8 :: ccE r3 z0 z1 z2 z3 z4 z5 z6 z7 z8 :: Y, ro⟩ (Addr.add (Addr.mk r1 0 none) 3) (.int .i64 x3) ∧ ∃ x4 : Int, H.rd ⟨own ++ ccE r1 a0 a1 a2 a3 a4 a5 a6 a7 a8 :: ccE r3 z0 z1 z2 z3 z4 z5 z6 z7 z8 :: Y, ro⟩ (Addr.add (Addr.mk r1 0 none) 4) (.int .i64 x4) ∧ ∃ x5 : SV, H.rd ⟨own ++ ccE r1 a0 a1 a2 a3 a4 a5 a6 a7 a8 :: ccE r3 z0 z1 z2 z3 z4 z5 z6 z7 z8 :: Y, ro⟩ (Addr.add (Addr.mk r1 0 none) 5) (.slice x5.a x5.len x5.cap) ∧ ∃ x6 : SV, H.rd ⟨own ++ ccE r1 a0 a1 a2 a3 a4 a5 a6 a7 a8 :: ccE r3 z0 z1 z2 z3 z4 z5 z6 z7 z8 :: Y, ro⟩ (Addr.add (Addr.mk r1 0 none) 6) (.slice x6.a x6.len x6.cap) ∧ ∃ x7 : SV, H.rd ⟨own ++ ccE r1 a0 a1 a2 a3 a4 a5 a6 a7 a8 :: ccE r3 z0 z1 z2 z3 z4 z5 z6 z7 z8 :: Y, ro⟩ (Addr.add (Addr.mk r1 0 none) 7) (.slice x7.a x7.len x7.cap) ∧ ∃ x8 : SV, H.rd ⟨own ++ ccE r1 a0 a1 a2 a3 a4 a5 a6 a7 a8 :: ccE r3 z0 z1 z2 z3 z4 z5 z6 z7 z8 :: Y, ro⟩ (Addr.add (Addr.mk r1 0 none) 8) (.slice x8.a x8.len x8.cap) ∧ 
    (ccC x0 x1 x2 x3 x4 x5 x6 x7 x8).length = 9 ∧ (Program.underlying Tryd.prog 31).isSome = true ∧ H.wr ⟨own ++ ccE r1 a0 a1 a2 a3 a4 a5 a6 a7 a8 :: ccE r3 z0 z1 z2 z3 z4 z5 z6 z7 z8 :: Y, ro⟩ (Addr.mk r3 0 none) (ccC x0 x1 x2 x3 x4 x5 x6 x7 x8) fun h =>
    ∃ y0 : Int, H.rd h (Addr.add (Addr.mk r3 0 none) 0) (.int .i64 y0) ∧ ∃ y1 : SV, H.rd h (Addr.add (Addr.mk r3 0 none) 1) (.slice y1.a y1.len y1.cap) ∧ ∃ y2 : SV, H.rd h (Addr.add (Addr.mk r3 0 none) 2) (.slice y2.a y2.len y2.cap) ∧ ∃ y3 : Int, H.rd h (Addr.add (Addr.mk r3 0 none) 3) (.int .i64 y3) ∧ ∃ y4 : Int, H.rd h (Addr.add (Addr.mk r3 0 none) 4) (.int .i64 y4) ∧ ∃ y5 : SV, H.rd h (Addr.add (Addr.mk r3 0 none) 5) (.slice y5.a y5.len y5.cap) ∧ ∃ y6 : SV, H.rd h (Addr.add (Addr.mk r3 0 none) 6) (.slice y6.a y6.len y6.cap) ∧ ∃ y7 : SV, H.rd h (Addr.add (Addr.mk r3 0 none) 7) (.slice y7.a y7.len y7.cap) ∧ ∃ y8 : SV, H.rd h (Addr.add (Addr.mk r3 0 none) 8) (.slice y8.a y8.len y8.cap) ∧ VRet h (Q y0 y1 y2 y3 y4 y5 y6 y7 y8) post :=
  cc_get (a0 := a0) (a1 := a1) (a2 := a2) (a3 := a3) (a4 := a4) (a5 := a5) (a6 := a6) (a7 := a7) (a8 := a8) (by simp) (cc_put (z0 := z0) (z1 := z1) (z2 := z2) (z3 := z3) (z4 := z4) (z5 := z5) (z6 := z6) (z7 := z7) (z8 := z8) (own ++ [ccE r1 a0 a1 a2 a3 a4 a5 a6 a7 a8]) Y (by simp) (cc_get (a0 := a0) (a1 := a1) (a2 := a2) (a3 := a3) (a4 := a4) (a5 := a5) (a6 := a6) (a7 := a7) (a8 := a8) (by simp) hp))
theorem cc_w {own C : List Ent} {ro : Addr → Option Value} {r1 : Nat} {a0 : Int} {a1 : SV} {a2 : SV} {a3 : Int} {a4 : Int} {a5 : SV} {a6 : SV} {a7 : SV} {a8 : SV} {j : Nat} {v : Value} {K : H → Prop} (b0 : Int) (b1 : SV) (b2 : SV) (b3 : Int) (b4 : Int) (b5 : SV) (b6 : SV) (b7 : SV) (b8 : SV) (h1 : v.oneCell' = true) (hj : 0 + j + 1 ≤ 9) (hs : spl (ccC a0 a1 a2 a3 a4 a5 a6 a7 a8) (0 + j) [v] = ccC b0 b1 b2 b3 b4 b5 b6 b7 b8)
    (hK : K ⟨own ++ ccE r1 b0 b1 b2 b3 b4 b5 b6 b7 b8 :: C, ro⟩) : H.wr ⟨own ++ ccE r1 a0 a1 a2 a3 a4 a5 a6 a7 a8 :: C, ro⟩ (Addr.add (Addr.mk r1 0 none) j) [v] K := by
  refine wF own (ccE r1 a0 a1 a2 a3 a4 a5 a6 a7 a8) C ⟨h1, trivial⟩ rfl rfl hj ?_
  show K ⟨own ++ ⟨some r1, spl (ccC a0 a1 a2 a3 a4 a5 a6 a7 a8) (0 + j) [v], 9⟩ :: C, ro⟩
  rw [hs]
  exact hK
/-! ### the document's comb: its rows -/
theorem rm_congr {n : Nat} {f g : Nat → Int} (h : ∀ k, k < n → f k = g k) : rm n f = rm n g := List.map_congr_left fun k hk => h k (List.mem_range.1 hk)
theorem rm_rep (n : Nat) : rm n (fun _ => (0 : Int)) = List.replicate n 0 := by
  refine List.ext_getElem? fun k => ?_
  by_cases hk : k < n
  · rw [rm_get _ hk, List.getElem?_replicate, if_pos hk]
  · rw [List.getElem?_eq_none (by rw [rm_len]; omega), List.getElem?_eq_none (by simp; omega)]
def cF (s : Int) (d g : Nat → Int) : Nat → Int := fun j => if j = 0 then s else if j % 2 = 1 then d (j / 2) else g (j / 2 - 1)
theorem cF_0 (s : Int) (d g : Nat → Int) : cF s d g 0 = s := rfl
theorem cF_d (s : Int) (d g : Nat → Int) (p : Nat) : cF s d g (1 + 2 * p) = d p := by
  unfold cF
  rw [if_neg (by omega), if_pos (by omega), show (1 + 2 * p) / 2 = p by omega]
theorem cF_g (s : Int) (d g : Nat → Int) (p : Nat) : cF s d g (2 + 2 * p) = g p := by
  unfold cF
  rw [if_neg (by omega), if_neg (by omega), show (2 + 2 * p) / 2 - 1 = p by omega]
theorem cF_zero : cF 0 (fun _ => 0) (fun _ => 0) = fun _ => 0 := by
  funext j; unfold cF; split
  · rfl
  · split <;> rfl
theorem cF_set (s : Int) (d g : Nat → Int) (q : Nat) (x v w : Int) : updN (updN (updN (cF s d g) (2 + 2 * q) x) (1 + 2 * q) v) 0 w = cF w (updN d q v) (updN g q x) := by
  funext j
  unfold cF updN
  dsimp only
  by_cases j0 : j = 0
  · simp only [if_pos j0]
  simp only [if_neg j0]
  by_cases j1 : j % 2 = 1
  · simp only [if_pos j1]
    by_cases jq : j = 1 + 2 * q
    · rw [if_pos jq, if_pos (by omega)]
    · rw [if_neg jq, if_neg (by omega), if_neg (by omega)]
  · simp only [if_neg j1]
    by_cases jq : j = 2 + 2 * q
    · rw [if_neg (by omega), if_pos jq, if_pos (by omega)]
    · rw [if_neg (by omega), if_neg jq, if_neg (by omega)]
theorem cF_congr {n : Nat} {s s' : Int} {d g d' g' : Nat → Int} (h0 : s = s') (h1 : ∀ p, p < n → d p = d' p) (h2 : ∀ p, p < n → g p = g' p) : rm (1 + 2 * n) (cF s d g) = rm (1 + 2 * n) (cF s' d' g') := by
  refine rm_congr fun j hj => ?_
  unfold cF
  by_cases j0 : j = 0
  · rw [if_pos j0, if_pos j0, h0]
  rw [if_neg j0, if_neg j0]
  by_cases j1 : j % 2 = 1
  · rw [if_pos j1, if_pos j1, h1 _ (by omega)]
  · rw [if_neg j1, if_neg j1, h2 _ (by omega)]
def row2 (n : Nat) (S : Nat → Int) (D G : Nat → Nat → Int) : List (List Int) := [rm (1 + 2 * n) (cF (S 0) (D 0) (G 0)), rm (1 + 2 * n) (cF (S 1) (D 1) (G 1))]
def TwoR (ro : Addr → Option Value) (s : SV) (n : Nat) (S : Nat → Int) (D G : Nat → Nat → Int) : Prop := ∃ rc, RdRowsOf ⟨[], ro⟩ s rc ∧ rc.map Prod.snd = row2 n S D G
theorem TwoR.up {ro ro' : Addr → Option Value} {s : SV} {n : Nat} {S : Nat → Int} {D G : Nat → Nat → Int} (h : TwoR ro s n S D G) (m : ∀ a v, ro a = some v → ro' a = some v) : TwoR ro' s n S D G := by
  obtain ⟨rc, h1, h2⟩ := h
  exact ⟨rc, h1.mono (by simp) m, h2⟩
theorem TwoR.len {ro : Addr → Option Value} {s : SV} {n : Nat} {S : Nat → Int} {D G : Nat → Nat → Int} (h : TwoR ro s n S D G) : s.len = 2 := by
  obtain ⟨rc, h1, h2⟩ := h
  have := h1.1.len
  rw [List.length_map] at this
  have e := congrArg List.length h2
  rw [List.length_map] at e
  rw [this, e]; rfl
theorem two_at {ro : Addr → Option Value} {own : List Ent} {s : SV} {n : Nat} {S : Nat → Int} {D G : Nat → Nat → Int} (h : TwoR ro s n S D G) {w : Nat} (hw : w < 2) {i : Int} (hi : i = (w : Int)) {K : SV → Prop} (hK : ∀ x, RdSl ⟨[], ro⟩ x (ints (rm (1 + 2 * n) (cF (S w) (D w) (G w)))) → K x) :
    ∃ b : Addr, s.a = some b ∧ 0 ≤ i ∧ i < ((s.len : Nat) : Int) ∧ ∃ x : SV, H.rd ⟨own, ro⟩ (Addr.add (Addr.add b (i.toNat * 1)) 0) (Value.slice x.a x.len x.cap) ∧ K x := by
  subst hi
  have hl := h.len
  obtain ⟨rc, h1, h2⟩ := h
  refine (h1.mono (h2 := ⟨own, ro⟩) (by simp) (fun _ _ h => h)).idx (by omega) (by omega) fun t xs hx _ => hK t ?_
  rw [Int.toNat_natCast] at hx
  have e : (rc.map Prod.snd)[w]? = some xs := by rw [List.getElem?_map, hx]; rfl
  rw [h2] at e
  have ex : xs = rm (1 + 2 * n) (cF (S w) (D w) (G w)) := by
    rcases (show w = 0 ∨ w = 1 by omega) with rfl | rfl
    · exact (Option.some.inj e).symm
    · exact (Option.some.inj e).symm
  rw [← ex]
  exact h1.2 _ (List.mem_of_getElem? hx)
theorem two_rd {ro : Addr → Option Value} {s : SV} {n : Nat} {S : Nat → Int} {D G : Nat → Nat → Int} (h : TwoR ro s n S D G) {w : Nat} (hw : w < 2) : ∃ (b : Addr) (x : SV), s.a = some b ∧ RdSl ⟨[], ro⟩ x (ints (rm (1 + 2 * n) (cF (S w) (D w) (G w)))) ∧ ∀ (own : List Ent) (ro' : Addr → Option Value), (∀ a v, ro a = some v → ro' a = some v) → H.rd ⟨own, ro'⟩ (Addr.add (Addr.add b (((w : Nat) : Int).toNat * 1)) 0) (Value.slice x.a x.len x.cap) := by
  obtain ⟨b, hb, _, _, x, hx, hr⟩ := two_at (own := []) h hw rfl (K := fun x => RdSl ⟨[], ro⟩ x (ints (rm (1 + 2 * n) (cF (S w) (D w) (G w))))) (fun x hx => hx)
  exact ⟨b, x, hb, hr, fun own ro' m => rdm hx (by simp) m⟩
/-- a number of a row -/
theorem rm_ati {n : Nat} {f : Nat → Int} {s : SV} {own : List Ent} {ro : Addr → Option Value} (r : RdSl ⟨[], ro⟩ s (ints (rm n f))) {k : Nat} (hk : k < n) {i : Int} (hi : i = (k : Int)) {K : Int → Prop} (hK : K (f k)) :
    ∃ b : Addr, s.a = some b ∧ 0 ≤ i ∧ i < ((s.len : Nat) : Int) ∧ ∃ x : Int, H.rd ⟨own, ro⟩ (Addr.add (Addr.add b (i.toNat * 1)) 0) (Value.int .i64 x) ∧ K x := by
  subst hi
  have hl := r.len
  rw [ints_length, rm_len] at hl
  refine RdSl.idx (h := ⟨own, ro⟩) r.ro (by omega) (by omega) (fun x hx => ?_)
  rw [Int.toNat_natCast, rm_get _ hk] at hx
  cases hx; exact hK
theorem rm_rd {n : Nat} {f : Nat → Int} {s : SV} {own : List Ent} {ro ro' : Addr → Option Value} (r : RdSl ⟨[], ro⟩ s (ints (rm n f))) (m : ∀ a v, ro a = some v → ro' a = some v) {b : Addr} (hb : s.a = some b) {k : Nat} (hk : k < n) {i : Int} (hi : i = (k : Int)) : H.rd ⟨own, ro'⟩ (Addr.add (Addr.add b (i.toNat * 1)) 0) (Value.int .i64 (f k)) := by
  subst hi
  rw [Int.toNat_natCast]
  exact (r.mono (h2 := ⟨own, ro'⟩) (by simp) m).rdi hb (rm_get _ hk)
theorem ref4_in_c {n lo hi : Int} {h : H} {post : Value → H → Prop} (hk : post (.bool (decide (lo ≤ n ∧ n ≤ hi))) h) : SemCall Tryd.prog 22 (List.toArray [.int .i64 n, .int .i64 lo, .int .i64 hi]) h post := by
  refine f22_call n lo hi h post ?_
  refine ⟨fun b h' => h' = h ∧ b = decide (lo ≤ n ∧ n ≤ hi), VIf_dec (fun hx => gi ⟨rfl, ?_⟩) (fun hx => gi ⟨rfl, ?_⟩), ?_⟩
  · have : lo ≤ n := hx; simp [this]
  · have : ¬ lo ≤ n := hx; simp [this]
  · rintro _ b h' ⟨rfl, rfl⟩; exact ret hk
theorem ref4_upd_c {n : Nat} {f : Nat → Int} {s : SV} {v i : Int} {own : List Ent} {ro : Addr → Option Value} {post : Value → H → Prop} (r : RdSl ⟨[], ro⟩ s (ints (rm n f))) (hn : n ≤ 1000000) {k : Nat} (hk : k < n) (hi : i = (k : Int))
    (hK : ∀ (s' : SV) (ro' : Addr → Option Value), (∀ a v, ro a = some v → ro' a = some v) → RdSl ⟨[], ro'⟩ s' (ints (rm n (updN f k v))) → post (.slice s'.a s'.len s'.cap) ⟨own, ro'⟩) :
    SemCall Tryd.prog 23 (List.toArray [.slice s.a s.len s.cap, .int .i64 i, .int .i64 v]) ⟨own, ro⟩ post := by
  subst hi
  have hl := r.len
  rw [ints_length, rm_len] at hl
  refine ref4_set_c r.ro (by omega) (by omega) (by omega) (fun s' ro' m h _ => hK s' ro' m ?_)
  rw [Int.toNat_natCast, rm_set] at h
  exact h
/-- two rows in a new slice -/
theorem two_new {own : List Ent} {ro : Addr → Option Value} {s0 s1 : SV} {R0 R1 : List Int} {post : Value → H → Prop} (r0 : RdSl ⟨[], ro⟩ s0 (ints R0)) (r1 : RdSl ⟨[], ro⟩ s1 (ints R1))
    (hk : ∀ (s' : SV) (ro' : Addr → Option Value), (∀ a v, ro a = some v → ro' a = some v) → RdRowsOf ⟨[], ro'⟩ s' [(s0, R0), (s1, R1)] → post (.slice s'.a s'.len s'.cap) ⟨own, ro'⟩) :
    H.new ⟨own, ro⟩ [.slice s0.a s0.len s0.cap, .slice s1.a s1.len s1.cap] fun r h => VRet h (.slice (some (Addr.mk r 0 none)) 2 2) post := by
  intro r f
  have hf : ∀ a v, ro a = some v → (⟨some r, [.slice s0.a s0.len s0.cap, .slice s1.a s1.len s1.cap], 2⟩ : Ent).id ≠ some a.block := fun a v h hb => f.2 a v h (Option.some.inj hb).symm
  refine ⟨⟨own, _⟩, by simpa using Gh.freeze own [] ro _ hf, hk ⟨some (Addr.mk r 0 none), 2, 2⟩ _ (frozen_mono hf) ⟨?_, fun x hx => ?_⟩⟩
  · exact RdSl.frozen (OwnsSl.at0 1 (by simp) (by simp) (by simp [maxLen]))
  · simp only [List.mem_cons, List.not_mem_nil, or_false] at hx
    rcases hx with rfl | rfl
    · exact r0.mono (by simp) (frozen_mono hf)
    · exact r1.mono (by simp) (frozen_mono hf)
theorem ref4_half_c {own : List Ent} {ro : Addr → Option Value} {s x : SV} {n v : Nat} {i : Int} {S : Nat → Int} {D G : Nat → Nat → Int} {s0 : Int} {d0 g0 : Nat → Int} {post : Value → H → Prop} (h : TwoR ro s n S D G) (hx : RdSl ⟨[], ro⟩ x (ints (rm (1 + 2 * n) (cF s0 d0 g0)))) (hv : v < 2) (hi : i = (v : Int))
    (hk : ∀ (s' : SV) (ro' : Addr → Option Value), (∀ a v, ro a = some v → ro' a = some v) → TwoR ro' s' n (fun w => if w = v then s0 else S w) (fun w p => if w = v then d0 p else D w p) (fun w p => if w = v then g0 p else G w p) → post (.slice s'.a s'.len s'.cap) ⟨own, ro'⟩) :
    SemCall Tryd.prog 25 (List.toArray [.slice s.a s.len s.cap, .int .i64 i, .slice x.a x.len x.cap]) ⟨own, ro⟩ post := by
  refine f25_call _ _ _ _ post ?_
  subst hi
  rcases (show v = 0 ∨ v = 1 by omega) with rfl | rfl
  · refine VIf_eq (fun _ => ?_) (fun h => absurd rfl h)
    refine two_at h (w := 1) (by omega) rfl (fun y hy => two_new hx hy (fun s' ro' m hr => hk s' ro' m ⟨_, hr, ?_⟩))
    simp [row2]
  · refine VIf_eq (fun h => by simp at h) (fun _ => ?_)
    refine two_at h (w := 0) (by omega) rfl (fun y hy => two_new hy hx (fun s' ro' m hr => hk s' ro' m ⟨_, hr, ?_⟩))
    simp [row2]
theorem mk1 {own : List Ent} {ro : Addr → Option Value} {N : Int} {K : Nat → H → Prop} (hw : Wf ⟨own, ro⟩) (h : ∀ r, Wf ⟨own ++ [⟨some r, ints (List.replicate N.toNat 0), N.toNat⟩], ro⟩ → K r ⟨own ++ [⟨some r, ints (List.replicate N.toNat 0), N.toNat⟩], ro⟩) :
    H.new ⟨own, ro⟩ (repl N.toNat [Value.int .i64 0]) K := by
  intro r f
  have e : (⟨some r, repl N.toNat [Value.int .i64 0], (repl N.toNat [Value.int .i64 0]).length⟩ : Ent) = ⟨some r, ints (List.replicate N.toNat 0), N.toNat⟩ := by rw [repl_ints, ints_length, List.length_replicate]
  show K r ⟨own ++ [⟨some r, repl N.toNat [Value.int .i64 0], (repl N.toNat [Value.int .i64 0]).length⟩], ro⟩
  rw [e]
  exact h r (hw.add f rfl)
theorem ref4_halves_c {n : Nat} {own : List Ent} {ro : Addr → Option Value} {post : Value → H → Prop} (hn : n ≤ 4)
    (hk : ∀ (s' : SV) (ro' : Addr → Option Value), (∀ a v, ro a = some v → ro' a = some v) → TwoR ro' s' n (fun _ => 0) (fun _ _ => 0) (fun _ _ => 0) → post (.slice s'.a s'.len s'.cap) ⟨own, ro'⟩) :
    SemCall Tryd.prog 21 (List.toArray [.int .i64 (n : Int)]) ⟨own, ro⟩ post := by
  refine SemCall.wf (fun hw => ?_)
  refine f21_call _ _ post ?_
  have hN : (1 + 2 * (n : Int)).toNat = 1 + 2 * n := by omega
  refine ⟨⟨by omega, by omega⟩, ⟨by omega, by omega⟩, ⟨by omega, by omega⟩, ⟨by omega, by omega⟩, by omega, Int.le_refl _, by omega, by omega, mk1 hw (fun ra hwa => ⟨by omega, Int.le_refl _, by omega, by omega, mk1 hwa (fun rb hwb => ?_)⟩)⟩
  intro r5 f5
  have hw5 := hwb.add (e := ⟨some r5, [.slice (some (Addr.mk ra 0 none)) (1 + 2 * (n : Int)).toNat (1 + 2 * (n : Int)).toNat, .slice (some (Addr.mk rb 0 none)) (1 + 2 * (n : Int)).toNat (1 + 2 * (n : Int)).toNat], 2⟩) f5 rfl
  simp only [List.append_assoc, List.cons_append, List.nil_append] at hw5
  obtain ⟨ro', g, m, r⟩ := frzE (own := own) _ ro hw5
  refine ⟨⟨own, ro'⟩, by simpa using g, hk ⟨some (Addr.mk r5 0 none), 2, 2⟩ ro' m ⟨[(⟨some (Addr.mk ra 0 none), (1 + 2 * (n : Int)).toNat, (1 + 2 * (n : Int)).toNat⟩, List.replicate (1 + 2 * (n : Int)).toNat 0), (⟨some (Addr.mk rb 0 none), (1 + 2 * (n : Int)).toNat, (1 + 2 * (n : Int)).toNat⟩, List.replicate (1 + 2 * (n : Int)).toNat 0)], ⟨?_, fun x hx => ?_⟩, ?_⟩⟩
  · exact r _ (.tail _ (.tail _ (.head _))) _ _ (OwnsSl.at0 1 (by simp) (by simp) (by simp [maxLen]))
  · simp only [List.mem_cons, List.not_mem_nil, or_false] at hx
    rcases hx with rfl | rfl
    · exact r _ (.head _) _ _ (OwnsSl.at0 1 (by simp [ints]) (by simp) (by simp only [maxLen]; omega))
    · exact r _ (.tail _ (.head _)) _ _ (OwnsSl.at0 1 (by simp [ints]) (by simp) (by simp only [maxLen]; omega))
  · rw [hN]
    simp only [List.map_cons, List.map_nil, row2, cF_zero, rm_rep]
/-! ### the document's comb, and this one -/
def askL (n : Nat) (c : CS) : List (List Int) := (List.range n).map fun p => [c.aA p, c.aN p]
structure CcR (ro : Addr → Option Value) (n : Nat) (c : CS) (Nw Su As At Ad Nu : SV) : Prop where
  nw : TwoR ro Nw n c.S c.D c.G
  su : TwoR ro Su n c.sS c.sD c.sG
  ak : ∃ rc, RdRowsOf ⟨[], ro⟩ As rc ∧ rc.map Prod.snd = askL n c
  ln : RdSl ⟨[], ro⟩ At (ints (rm n c.hL))
  ad : ∃ f, RdSl ⟨[], ro⟩ Ad (ints (rm n f)) ∧ ∀ p, p < n → c.hL p ≠ 0 → f p = c.hA p
  nu : ∃ f, RdSl ⟨[], ro⟩ Nu (ints (rm n f)) ∧ ∀ p, p < n → c.hL p ≠ 0 → f p = c.hN p
theorem CcR.up {ro ro' : Addr → Option Value} {n : Nat} {c : CS} {Nw Su As At Ad Nu : SV} (h : CcR ro n c Nw Su As At Ad Nu) (m : ∀ a v, ro a = some v → ro' a = some v) : CcR ro' n c Nw Su As At Ad Nu := by
  obtain ⟨h1, h2, ⟨rc, h3, h4⟩, h5, ⟨f, h6, h7⟩, ⟨g, h8, h9⟩⟩ := h
  exact ⟨h1.up m, h2.up m, ⟨rc, h3.mono (by simp) m, h4⟩, h5.mono (by simp) m, ⟨f, h6.mono (by simp) m, h7⟩, ⟨g, h8.mono (by simp) m, h9⟩⟩
theorem rlen {n : Nat} {f : Nat → Int} {s : SV} {h : H} (r : RdSl h s (ints (rm n f))) : s.len = n := by
  have := r.len; rwa [ints_length, rm_len] at this
def ccP (e : Int) (y0 : Int) (y1 y2 : SV) (y3 y4 : Int) (y5 y6 y7 y8 : SV) : Value := .tuple (List.toArray [.agg (List.toArray (ccC y0 y1 y2 y3 y4 y5 y6 y7 y8)), .int .i64 e])
end Go.Proofs.YtockhbbpcbcenaaDoor
