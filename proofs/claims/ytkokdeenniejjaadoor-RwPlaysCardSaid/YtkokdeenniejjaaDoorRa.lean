import Derived.Test.YtkokdeenniejjaaDoorRf
import Derived.Test.YtkokdeenniejjaaDoorEngJ
namespace Go.Proofs.YtkokdeenniejjaaDoor
open Go.Eng
set_option maxRecDepth 20000
def rm {α : Type} (n : Nat) (f : Nat → α) : List α := (List.range n).map f
theorem rm_len {α : Type} (n : Nat) (f : Nat → α) : (rm n f).length = n := by simp [rm]
theorem rm_get {α : Type} {n k : Nat} (f : Nat → α) (h : k < n) : (rm n f)[k]? = some (f k) := by simp [rm, h]
theorem rm_succ {α : Type} (n : Nat) (f : Nat → α) : rm (n + 1) f = rm n f ++ [f n] := by simp [rm, List.range_succ]
def updN {α : Type} (f : Nat → α) (q : Nat) (v : α) : Nat → α := fun p => if p = q then v else f p
theorem updN_same {α : Type} (f : Nat → α) (q : Nat) (v : α) : updN f q v q = v := if_pos rfl
theorem updN_ne {α : Type} {f : Nat → α} {q p : Nat} {v : α} (h : p ≠ q) : updN f q v p = f p := if_neg h
theorem rm_set {α : Type} (n k : Nat) (f : Nat → α) (v : α) : (rm n f).set k v = rm n (updN f k v) := by
  refine List.ext_getElem? fun i => ?_
  by_cases hi : i < n
  · rw [rm_get _ hi]
    by_cases hk : k = i
    · subst hk; rw [List.getElem?_set_self (by rw [rm_len]; exact hi), updN_same]
    · rw [List.getElem?_set_ne hk, rm_get _ hi, updN_ne (Ne.symm hk)]
  · rw [List.getElem?_eq_none (by simp [rm_len]; omega), List.getElem?_eq_none (by simp [rm_len]; omega)]
theorem updN_cases {α : Type} {f : Nat → α} {q : Nat} {v : α} (p : Nat) : (p = q ∧ updN f q v p = v) ∨ (p ≠ q ∧ updN f q v p = f p) := by
  by_cases h : p = q
  · subst h; exact .inl ⟨rfl, updN_same _ _ _⟩
  · exact .inr ⟨h, updN_ne h⟩
/-! ### the struct latchgarthref4.Lock, boxed -/
def lkC (a0 : SV) (a1 : SV) : List Value := [.slice a0.a a0.len a0.cap, .slice a1.a a1.len a1.cap]
def lkE (r : Nat) (a0 : SV) (a1 : SV) : Ent := ⟨some r, lkC a0 a1, 2⟩
theorem lk_one {a0 : SV} {a1 : SV} : allOne (lkC a0 a1) := ⟨rfl, rfl, trivial⟩
theorem lk_get {h : H} {r : Nat} {a0 : SV} {a1 : SV} {K : SV → SV → Prop} (he : lkE r a0 a1 ∈ h.own) (hK : K a0 a1) :
    ∃ x0 : SV, H.rd h (Addr.add (Addr.mk r 0 none) 0) (.slice x0.a x0.len x0.cap) ∧ ∃ x1 : SV, H.rd h (Addr.add (Addr.mk r 0 none) 1) (.slice x1.a x1.len x1.cap) ∧ K x0 x1 :=
  rS _ he rfl rfl (rS _ he rfl rfl (hK))
theorem lk_put {own : List Ent} {ro : Addr → Option Value} {r : Nat} {a0 : SV} {a1 : SV} {z0 : SV} {z1 : SV} {K : H → Prop} (A C : List Ent) (hown : own = A ++ lkE r z0 z1 :: C) (hK : K ⟨A ++ lkE r a0 a1 :: C, ro⟩) :
    (lkC a0 a1).length = 2 ∧ (Program.underlying Tryd.prog 56).isSome = true ∧ H.wr ⟨own, ro⟩ (Addr.mk r 0 none) (lkC a0 a1) K :=
  ⟨rfl, rfl, wro A (lkE r z0 z1) C lk_one hown rfl (Nat.le_refl _) hK⟩
theorem lk_fin {own Y : List Ent} {ro : Addr → Option Value} {r1 r3 : Nat} {a0 : SV} {a1 : SV} {z0 : SV} {z1 : SV} {Q : SV → SV → Value} {post : Value → H → Prop} (hp : post (Q a0 a1) ⟨own, ro⟩) :
    ∃ x0 : SV, H.rd ⟨own ++ lkE r1 a0 a1 :: lkE r3 z0 z1 :: Y, ro⟩ (Addr.add (Addr.mk r1 0 none) 0) (.slice x0.a x0.len x0.cap) ∧ ∃ x1 : SV, H.rd ⟨own ++ lkE r1 a0 a1 :: lkE r3 z0 z1 :: Y, ro⟩ (Addr.add (Addr.mk r1 0 none) 1) (.slice x1.a x1.len x1.cap) ∧ 
    (lkC x0 x1).length = 2 ∧ (Program.underlying Tryd.prog 56).isSome = true ∧ H.wr ⟨own ++ lkE r1 a0 a1 :: lkE r3 z0 z1 :: Y, ro⟩ (Addr.mk r3 0 none) (lkC x0 x1) fun h =>
    ∃ y0 : SV, H.rd h (Addr.add (Addr.mk r3 0 none) 0) (.slice y0.a y0.len y0.cap) ∧ ∃ y1 : SV, H.rd h (Addr.add (Addr.mk r3 0 none) 1) (.slice y1.a y1.len y1.cap) ∧ VRet h (Q y0 y1) post :=
  lk_get (a0 := a0) (a1 := a1) (by simp) (lk_put (z0 := z0) (z1 := z1) (own ++ [lkE r1 a0 a1]) Y (by simp) (lk_get (a0 := a0) (a1 := a1) (by simp) ⟨⟨own, ro⟩, Gh.drop (by simp), hp⟩))
theorem lk_finY {own Y : List Ent} {ro : Addr → Option Value} {r1 r3 : Nat} {a0 : SV} {a1 : SV} {z0 : SV} {z1 : SV} {Q : SV → SV → Value} {post : Value → H → Prop} (hp : VRet ⟨(own ++ [lkE r1 a0 a1]) ++ lkE r3 a0 a1 :: Y, ro⟩ (Q a0 a1) post) :
    ∃ x0 : SV, H.rd ⟨own ++ lkE r1 a0 a1 :: lkE r3 z0 z1 :: Y, ro⟩ (Addr.add (Addr.mk r1 0 none) 0) (.slice x0.a x0.len x0.cap) ∧ ∃ x1 : SV, H.rd ⟨own ++ lkE r1 a0 a1 :: lkE r3 z0 z1 :: Y, ro⟩ (Addr.add (Addr.mk r1 0 none) 1) (.slice x1.a x1.len x1.cap) ∧ 
    (lkC x0 x1).length = 2 ∧ (Program.underlying Tryd.prog 56).isSome = true ∧ H.wr ⟨own ++ lkE r1 a0 a1 :: lkE r3 z0 z1 :: Y, ro⟩ (Addr.mk r3 0 none) (lkC x0 x1) fun h =>
    ∃ y0 : SV, H.rd h (Addr.add (Addr.mk r3 0 none) 0) (.slice y0.a y0.len y0.cap) ∧ ∃ y1 : SV, H.rd h (Addr.add (Addr.mk r3 0 none) 1) (.slice y1.a y1.len y1.cap) ∧ VRet h (Q y0 y1) post :=
  lk_get (a0 := a0) (a1 := a1) (by simp) (lk_put (z0 := z0) (z1 := z1) (own ++ [lkE r1 a0 a1]) Y (by simp) (lk_get (a0 := a0) (a1 := a1) (by simp) hp))
theorem lk_w {own C : List Ent} {ro : Addr → Option Value} {r1 : Nat} {a0 : SV} {a1 : SV} {j : Nat} {v : Value} {K : H → Prop} (b0 : SV) (b1 : SV) (h1 : v.oneCell' = true) (hj : 0 + j + 1 ≤ 2) (hs : spl (lkC a0 a1) (0 + j) [v] = lkC b0 b1)
    (hK : K ⟨own ++ lkE r1 b0 b1 :: C, ro⟩) : H.wr ⟨own ++ lkE r1 a0 a1 :: C, ro⟩ (Addr.add (Addr.mk r1 0 none) j) [v] K := by
  refine wF own (lkE r1 a0 a1) C ⟨h1, trivial⟩ rfl rfl hj ?_
  show K ⟨own ++ ⟨some r1, spl (lkC a0 a1) (0 + j) [v], 2⟩ :: C, ro⟩
  rw [hs]
  exact hK
/-! ### the document's lock -/
def bI (b : Bool) : Int := if b then 1 else 0
def wq (q : List (Int × Bool)) : List (List Int) := q.map fun x => [x.1, bI x.2]
theorem grows_svs : Grows Tryd.prog 38 22 1 := ⟨rfl, rfl, by decide, by decide, ⟨_, rfl, rfl, ⟨rfl, trivial⟩⟩⟩
structure LkR (ro : Addr → Option Value) (D W : SV) (d : Nat → Int) (q : List (Int × Bool)) : Prop where
  d : RdSl ⟨[], ro⟩ D (ints (rm 8 d))
  w : ∃ rows, RdRowsOf ⟨[], ro⟩ W rows ∧ rows.map (·.2) = wq q
  c : W.len ≤ W.cap
theorem LkR.up {ro ro' : Addr → Option Value} {D W : SV} {d : Nat → Int} {q : List (Int × Bool)} (h : LkR ro D W d q) (m : ∀ a v, ro a = some v → ro' a = some v) : LkR ro' D W d q :=
  ⟨RdSl.up h.d (by simp) m, h.w.imp fun rows r => ⟨r.1.mono (by simp) m, r.2⟩, h.c⟩
theorem LkR.wl {ro : Addr → Option Value} {D W : SV} {d : Nat → Int} {q : List (Int × Bool)} (h : LkR ro D W d q) : W.len = q.length := by
  obtain ⟨rows, r, e⟩ := h.w
  have h1 := r.1.len
  rw [List.length_map] at h1
  have h2 : rows.length = q.length := by have := congrArg List.length e; simpa [wq] using this
  omega
theorem LkR.dl {ro : Addr → Option Value} {D W : SV} {d : Nat → Int} {q : List (Int × Bool)} (h : LkR ro D W d q) : D.len = 8 := by
  have := h.d.len; rwa [ints_length, rm_len] at this
theorem lk_at {f : Nat → Int} {s : SV} {own : List Ent} {ro : Addr → Option Value} (r : RdSl ⟨[], ro⟩ s (ints (rm 8 f))) {i : Int} (h0 : 0 ≤ i) (h1 : i ≤ 7) {K : Int → Prop} (hK : K (f i.toNat)) :
    ∃ b : Addr, s.a = some b ∧ 0 ≤ i ∧ i < ((s.len : Nat) : Int) ∧ ∃ x : Int, H.rd ⟨own, ro⟩ (Addr.add (Addr.add b (i.toNat * 1)) 0) (Value.int .i64 x) ∧ K x := by
  have hl := r.len
  rw [ints_length, rm_len] at hl
  refine RdSl.idx (h := ⟨own, ro⟩) r.ro h0 (by omega) (fun x hx => ?_)
  rw [rm_get _ (by omega)] at hx
  cases hx; exact hK
/-- who waits at a place, and whether to write -/
theorem LkR.row {ro : Addr → Option Value} {D W : SV} {d : Nat → Int} {q : List (Int × Bool)} (h : LkR ro D W d q) {i : Int} (h0 : 0 ≤ i) {x : Int × Bool} (hx : q[i.toNat]? = some x) :
    ∃ (b : Addr) (s : SV) (c : Addr), W.a = some b ∧ i < ((W.len : Nat) : Int) ∧ (∀ own, H.rd ⟨own, ro⟩ (Addr.add (Addr.add b (i.toNat * 1)) 0) (.slice s.a s.len s.cap)) ∧ s.a = some c ∧ s.len = 2 ∧
      (∀ own, H.rd ⟨own, ro⟩ (Addr.add (Addr.add c (((0 : Int)).toNat * 1)) 0) (.int .i64 x.1)) ∧ (∀ own, H.rd ⟨own, ro⟩ (Addr.add (Addr.add c (((1 : Int)).toNat * 1)) 0) (.int .i64 (bI x.2))) := by
  have hwl := h.wl
  obtain ⟨rows, r, e⟩ := h.w
  have hi := (List.getElem?_eq_some_iff.1 hx).1
  have hin : i < ((W.len : Nat) : Int) := by omega
  obtain ⟨b, hb, _, _, s, hs, hK⟩ := RdRowsOf.idx (h := ⟨[], ro⟩) r h0 hin (K := fun s => ∃ xs, rows[i.toNat]? = some (s, xs) ∧ RdSl ⟨[], ro⟩ s (ints xs)) (fun t xs h1 h2 => ⟨xs, h1, h2⟩)
  obtain ⟨xs, h1, h2⟩ := hK
  have hxs : xs = [x.1, bI x.2] := by
    have h3 := congrArg (fun l => l[i.toNat]?) e
    simp only [List.getElem?_map, h1, wq, hx, Option.map_some, Option.some.injEq] at h3
    exact h3
  subst hxs
  have hl := h2.len
  simp only [ints_length, List.length_cons, List.length_nil] at hl
  obtain ⟨c, hc⟩ := h2.addr (by simp [ints])
  refine ⟨b, s, c, hb, hin, fun own => ?_, hc, by omega, fun own => ?_, fun own => ?_⟩
  · exact hs.own (by simp) rfl
  · have := (h2.ro (own := own)).get hc (i := 0) (v := .int .i64 x.1) rfl
    simpa [add_zero'] using this
  · have := (h2.ro (own := own)).get hc (i := 1) (v := .int .i64 (bI x.2)) rfl
    simpa [add_zero'] using this
/-- may one read, or write? -/
def dMay (d : Nat → Int) (wr : Bool) : Bool := (List.range 8).all fun k => d k != 2 && (d k != 1 || !wr)
theorem dMay_iff {d : Nat → Int} {wr : Bool} : dMay d wr = true ↔ ∀ k, k < 8 → d k ≠ 2 ∧ (d k = 1 → wr = false) := by
  simp only [dMay, List.all_eq_true, List.mem_range, Bool.and_eq_true, bne_iff_ne, Bool.or_eq_true, Bool.not_eq_true']
  refine forall_congr' fun k => forall_congr' fun _ => and_congr Iff.rfl ?_
  by_cases h : d k = 1 <;> simp [h]
theorem bI_one {b : Bool} : (bI b == 1) = b := by cases b <;> rfl
theorem ref_may_c {D W : SV} {d : Nat → Int} {wr : Bool} {own : List Ent} {ro : Addr → Option Value} {post : Value → H → Prop} (hd : RdSl ⟨[], ro⟩ D (ints (rm 8 d))) (hk : post (.bool (dMay d wr)) ⟨own, ro⟩) :
    SemCall Tryd.prog 49 (List.toArray [.agg (List.toArray (lkC D W)), .int .i64 (bI wr)]) ⟨own, ro⟩ post := by
  refine f49_call _ _ _ _ post ?_
  intro r1 _
  have m1 : lkE r1 D W ∈ own ++ [lkE r1 D W] := by simp
  refine ⟨fun h => h = ⟨own ++ [lkE r1 D W], ro⟩ ∧ ∀ k, k < 8 → d k ≠ 2 ∧ (d k = 1 → wr = false), ⟨fun n i h => h = ⟨own ++ [lkE r1 D W], ro⟩ ∧ ∃ k : Nat, i = k ∧ k ≤ 8 ∧ n = 8 - k ∧ ∀ j, j < k → d j ≠ 2 ∧ (d j = 1 → wr = false), ⟨8, gi ⟨rfl, 0, rfl, by omega, rfl, fun j hj => by omega⟩⟩, ?_⟩, ?_⟩
  rotate_left
  · rintro _ _ ⟨rfl, hall⟩
    refine ⟨⟨own, ro⟩, Gh.drop (by simp), ?_⟩
    rw [dMay_iff.2 hall] at hk
    exact hk
  rintro n _ i _ ⟨rfl, k, rfl, hk8, rfl, hall⟩
  refine VIf_dec (fun hi => ?_) (fun hi => gi ⟨rfl, fun j hj => hall j (by omega)⟩)
  have bad : ∀ {x : Bool}, x = true → (d k = 2 ∨ d k = 1 ∧ wr = true) → post (.bool false) ⟨own, ro⟩ := by
    intro x _ hb
    have hf : dMay d wr = false := by
      cases hm : dMay d wr with
      | false => rfl
      | true =>
        have := dMay_iff.1 hm k (by omega)
        rcases hb with hb | ⟨hb1, hb2⟩
        · exact absurd hb this.1
        · rw [this.2 hb1] at hb2; cases hb2
    rw [hf] at hk
    exact hk
  refine ⟨fun b h => h = ⟨own ++ [lkE r1 D W], ro⟩ ∧ (b = true ↔ (d k = 2 ∨ d k = 1 ∧ wr = true)), rS0 (lkE r1 D W) m1 rfl rfl (lk_at hd (by omega) (by omega) (VIf_eq (fun h2 => gi ⟨rfl, by simpa using .inl (by simpa using h2)⟩) (fun h2 => rS0 (lkE r1 D W) m1 rfl rfl (lk_at hd (by omega) (by omega) (VIf_eq (fun h1 => gi ⟨rfl, ?_⟩) (fun h1 => gi ⟨rfl, ?_⟩)))))), ?_⟩
  · rw [Int.toNat_natCast] at h1 h2
    rw [bI_one]; simp [h1]
  · rw [Int.toNat_natCast] at h1 h2
    simp [h1, h2]
  rintro _ b _ ⟨rfl, hb⟩
  refine VIf_b (fun hbt => ⟨⟨own, ro⟩, Gh.drop (by simp), bad hbt (hb.1 hbt)⟩) (fun hbf => ⟨⟨by omega, by omega⟩, 8 - (k + 1), by omega, gi ⟨rfl, k + 1, by omega, by omega, rfl, fun j hj => ?_⟩⟩)
  by_cases e : j = k
  · subst e
    have hn : ¬ (d j = 2 ∨ d j = 1 ∧ wr = true) := fun h => by rw [hb.2 h] at hbf; cases hbf
    refine ⟨fun h => hn (.inl h), fun h => ?_⟩
    cases hw : wr with
    | false => rfl
    | true => exact absurd (.inr ⟨h, hw⟩) hn
  · exact hall j (by omega)
/-- what asking does, in the document -/
def dAsk (d : Nat → Int) (q : List (Int × Bool)) (who : Int) (wr : Bool) : (Nat → Int) × List (Int × Bool) × Bool × Int :=
  if ¬ (0 ≤ who ∧ who ≤ 7) then (d, q, false, 1)
  else if d who.toNat ≠ 0 ∨ who ∈ q.map (·.1) then (d, q, false, 7)
  else if q = [] ∧ dMay d wr = true then (updN d who.toNat (1 + bI wr), q, true, 0)
  else (d, q ++ [(who, wr)], false, 0)
theorem app_newV {t e : TypeId} (g : Grows Tryd.prog t e 1) {s : SV} {vs : List Value} {own : List Ent} {ro : Addr → Option Value} {K : SV → H → Prop} (hw : Wf ⟨own, ro⟩) (hr : RdSl ⟨own, ro⟩ s vs) (h1 : allOne vs) (hb : s.len ≤ 1000000000)
    (hk : ∀ (s' : SV) (e' : Ent), OwnsSl 1 s' e' vs → s'.len = s.len → Wf ⟨own ++ [e'], ro⟩ → K s' ⟨own ++ [e'], ro⟩) :
    appVC Tryd.prog t (.slice none 0 0) (.slice s.a s.len s.cap) ⟨own, ro⟩ K := by
  have hw2 : Wf ⟨own ++ ⟨none, [], 0⟩ :: [], ro⟩ := Wf.ph (by simpa using hw)
  refine appVC_of (s := ⟨none, 0, 0⟩) (s2 := s) g (ys := vs) (by have := hr.len; omega) hr.rows.rdS h1 hr.2.1 (A := own) (C := []) (en := ⟨none, [], 0⟩) (xs := []) (by simpa using Gh.phantom own [] ro 0) (OwnsSl.nil 1) (by simp only; omega) (fun s' e' o l _ _ hf => hk s' e' (by simpa using o) (by simpa using l) (hw2.swap hf))
theorem allOne_svs (l : List (SV × List Int)) : allOne (l.map fun r => Value.slice r.1.a r.1.len r.1.cap) := by
  induction l with
  | nil => trivial
  | cons x l ih => exact ⟨rfl, ih⟩
theorem ref4_in_c {n lo hi : Int} {h : H} {post : Value → H → Prop} (hk : post (.bool (decide (lo ≤ n ∧ n ≤ hi))) h) : SemCall Tryd.prog 48 (List.toArray [.int .i64 n, .int .i64 lo, .int .i64 hi]) h post := by
  refine f48_call n lo hi h post ?_
  refine ⟨fun b h' => h' = h ∧ b = decide (lo ≤ n ∧ n ≤ hi), VIf_dec (fun hx => gi ⟨rfl, ?_⟩) (fun hx => gi ⟨rfl, ?_⟩), ?_⟩
  · have : lo ≤ n := hx; simp [this]
  · have : ¬ lo ≤ n := hx; simp [this]
  · rintro _ b h' ⟨rfl, rfl⟩; exact ret hk
theorem ref4_upd_c {f : Nat → Int} {s : SV} {i v : Int} {own : List Ent} {ro : Addr → Option Value} {post : Value → H → Prop} (r : RdSl ⟨[], ro⟩ s (ints (rm 8 f))) (h0 : 0 ≤ i) (h1 : i ≤ 7)
    (hK : ∀ (s' : SV) (ro' : Addr → Option Value), (∀ a v, ro a = some v → ro' a = some v) → RdSl ⟨[], ro'⟩ s' (ints (rm 8 (updN f i.toNat v))) → post (.slice s'.a s'.len s'.cap) ⟨own, ro'⟩) :
    SemCall Tryd.prog 41 (List.toArray [.slice s.a s.len s.cap, .int .i64 i, .int .i64 v]) ⟨own, ro⟩ post := by
  have hl := r.len
  rw [ints_length, rm_len] at hl
  refine ref4_set_c r.ro h0 (by omega) (by omega) (fun s' ro' m h _ => hK s' ro' m ?_)
  rw [rm_set] at h
  exact h
theorem ref_ask_c {D W : SV} {d : Nat → Int} {q : List (Int × Bool)} {who : Int} {wr : Bool} {own : List Ent} {ro : Addr → Option Value} {post : Value → H → Prop} (hr : LkR ro D W d q) (hq : q.length ≤ 1000)
    (hk : ∀ D' W' ro', (∀ a v, ro a = some v → ro' a = some v) → LkR ro' D' W' (dAsk d q who wr).1 (dAsk d q who wr).2.1 → post (.tuple (List.toArray [.agg (List.toArray (lkC D' W')), .bool (dAsk d q who wr).2.2.1, .int .i64 (dAsk d q who wr).2.2.2])) ⟨own, ro'⟩) :
    SemCall Tryd.prog 29 (List.toArray [.agg (List.toArray (lkC D W)), .int .i64 who, .int .i64 (bI wr)]) ⟨own, ro⟩ post := by
  refine SemCall.wf (fun hw => ?_)
  refine f29_call _ _ _ _ _ post ?_
  intro r1 f1
  have hw1 := hw.add (e := lkE r1 D W) f1 rfl
  intro r3 f3
  have hw3 := hw1.add (e := lkE r3 ⟨none, 0, 0⟩ ⟨none, 0, 0⟩) f3 rfl
  clear f1 f3
  show SemCall Tryd.prog _ _ ⟨own ++ [lkE r1 D W] ++ [lkE r3 ⟨none, 0, 0⟩ ⟨none, 0, 0⟩], ro⟩ _
  rw [List.append_assoc] at hw3 ⊢
  have m1 : ∀ {X : List Ent}, lkE r1 D W ∈ own ++ lkE r1 D W :: X := by simp
  have hwl := hr.wl
  refine ref4_in_c ⟨_, rfl, VIf_not (fun hx => ?_) (fun hx => ?_)⟩
  · have := hk D W ro (fun _ _ h => h)
    unfold dAsk at this
    rw [if_pos hx] at this
    exact lk_fin (own := own) (Y := []) (r1 := r1) (r3 := r3) (a0 := D) (a1 := W) (z0 := ⟨none, 0, 0⟩) (z1 := ⟨none, 0, 0⟩) (this hr)
  refine rS0 (lkE r1 D W) m1 rfl rfl (lk_at hr.d hx.1 hx.2 ?_)
  refine ⟨fun b h => h = ⟨own ++ ([lkE r1 D W] ++ [lkE r3 ⟨none, 0, 0⟩ ⟨none, 0, 0⟩]), ro⟩ ∧ (b = true ↔ (d who.toNat ≠ 0 ∨ who ∈ q.map (·.1))),
    ⟨fun n b i h => h = ⟨own ++ ([lkE r1 D W] ++ [lkE r3 ⟨none, 0, 0⟩ ⟨none, 0, 0⟩]), ro⟩ ∧ ∃ k : Nat, i = k ∧ k ≤ q.length ∧ n = q.length - k ∧ (b = true ↔ (d who.toNat ≠ 0 ∨ who ∈ (q.take k).map (·.1))), ⟨q.length, gi ⟨rfl, 0, rfl, by omega, rfl, by simp⟩⟩, ?_⟩, ?_⟩
  · rintro n _ b i _ ⟨rfl, k, rfl, hk1, rfl, hb⟩
    refine rS0 (lkE r1 D W) m1 rfl rfl (VIf_dec (fun hi => ?_) (fun hi => gi ⟨rfl, ?_⟩))
    · have hkl : k < q.length := by omega
      obtain ⟨bw, s, c, h1, h2, h3, h4, h5, h6, _⟩ := hr.row (i := (k : Int)) (by omega) (x := q[k]) (by rw [Int.toNat_natCast, List.getElem?_eq_getElem hkl])
      have tk : (q.take (k + 1)).map (·.1) = (q.take k).map (·.1) ++ [q[k].1] := by rw [List.take_add_one, List.getElem?_eq_getElem hkl, List.map_append]; rfl
      refine ⟨fun b h => h = ⟨own ++ ([lkE r1 D W] ++ [lkE r3 ⟨none, 0, 0⟩ ⟨none, 0, 0⟩]), ro⟩ ∧ (b = true ↔ (d who.toNat ≠ 0 ∨ who ∈ (q.take (k + 1)).map (·.1))), VIf_b (fun hbt => gi ⟨rfl, ?_⟩) (fun hbf => rS0 (lkE r1 D W) m1 rfl rfl ⟨bw, h1, by omega, h2, s, h3 _, c, h4, by omega, by omega, q[k].1, h6 _, gi ⟨rfl, ?_⟩⟩), ?_⟩
      · refine ⟨fun _ => ?_, fun _ => rfl⟩
        rw [tk]
        exact (hb.1 hbt).imp id (fun h => List.mem_append_left _ h)
      · rw [tk, List.mem_append, List.mem_singleton, ← or_assoc]
        have hn : ¬ (d who.toNat ≠ 0 ∨ who ∈ (q.take k).map (·.1)) := fun h => by rw [hb.2 h] at hbf; cases hbf
        constructor
        · intro h; exact .inr (by simpa using (beq_iff_eq.1 h).symm)
        · rintro (h | h)
          · exact absurd h hn
          · rw [h]; exact beq_self_eq_true _
      · rintro _ b2 _ ⟨rfl, hb2⟩
        exact ⟨⟨by omega, by omega⟩, q.length - (k + 1), by omega, gi ⟨rfl, k + 1, by omega, by omega, rfl, hb2⟩⟩
    · rw [List.take_of_length_le (by omega)] at hb; exact hb
  rintro _ busy _ ⟨rfl, hbusy⟩
  refine VIf_b (fun hbt => ?_) (fun hbf => ?_)
  · have := hk D W ro (fun _ _ h => h)
    unfold dAsk at this
    rw [if_neg (not_not_intro hx), if_pos (hbusy.1 hbt)] at this
    exact lk_fin (own := own) (Y := []) (r1 := r1) (r3 := r3) (a0 := D) (a1 := W) (z0 := ⟨none, 0, 0⟩) (z1 := ⟨none, 0, 0⟩) (this hr)
  have hnb : ¬ (d who.toNat ≠ 0 ∨ who ∈ q.map (·.1)) := fun h => by rw [hbusy.2 h] at hbf; cases hbf
  unfold dAsk at hk
  rw [if_neg (not_not_intro hx), if_neg hnb] at hk
  refine join_bk (h := ⟨own ++ ([lkE r1 D W] ++ [lkE r3 ⟨none, 0, 0⟩ ⟨none, 0, 0⟩]), ro⟩) (decide (q = [] ∧ dMay d wr = true)) ?_ ?_
  rotate_left
  · refine rS0 (lkE r1 D W) m1 rfl rfl (VIf_eq (fun h0 => ?_) (fun h0 => gi ⟨rfl, ?_⟩))
    · have hqn : q = [] := List.eq_nil_of_length_eq_zero (by omega)
      refine lk_get (r := r1) (a0 := D) (a1 := W) (by simp) (ref_may_c hr.d ⟨_, rfl, gi ⟨rfl, ?_⟩⟩)
      simp [hqn]
    · refine (decide_eq_false fun h => h0 ?_).symm
      rw [hwl, h.1]; rfl
  refine VIf_dec (fun hc => ?_) (fun hc => ?_)
  · rw [if_pos hc] at hk
    have hi : In64 (1 + bI wr) := by cases wr <;> exact ⟨by decide, by decide⟩
    refine rS0 (lkE r1 D W) m1 rfl rfl ⟨hi, ref4_upd_c hr.d hx.1 hx.2 (fun D' ro1 q1 hD => ⟨D', rfl, lk_w D' W rfl (by decide) rfl ?_⟩)⟩
    refine lk_fin (own := own) (Y := []) (r1 := r1) (r3 := r3) (a0 := D') (a1 := W) (z0 := ⟨none, 0, 0⟩) (z1 := ⟨none, 0, 0⟩) ?_
    exact hk D' W ro1 q1 ⟨hD, (hr.up q1).w, hr.c⟩
  · rw [if_neg hc] at hk
    obtain ⟨rows, rW, eW⟩ := hr.w
    refine rS0 (lkE r1 D W) m1 rfl rfl ?_
    refine app_newV grows_svs hw3 (rW.1.ro) (allOne_svs rows) (by omega) (fun s1 e1 o1 l1 hw4 => ?_)
    intro r6 f6
    have hw6 := hw4.add (e := ⟨some r6, [.int .i64 who, .int .i64 (bI wr)], 2⟩) f6 rfl
    clear f6
    refine app_rowW grows_svs (vs := [.slice (some (Addr.mk r6 0 none)) 2 2]) rfl ⟨rfl, trivial⟩ (own ++ [lkE r1 D W, lkE r3 ⟨none, 0, 0⟩ ⟨none, 0, 0⟩]) e1 [⟨some r6, [.int .i64 who, .int .i64 (bI wr)], 2⟩] (by simp) o1 hw6 (by omega) (fun s2 e2 o2 l2 hw7 => ?_)
    rw [List.append_assoc] at hw7 ⊢
    refine lk_w D s2 rfl (by decide) rfl ?_
    have hz : Wf ⟨own ++ [e2, ⟨some r6, [.int .i64 who, .int .i64 (bI wr)], 2⟩], ro⟩ := hw7.sub (by simp)
    refine lk_get (r := r1) (a0 := D) (a1 := s2) (by simp) (lk_put (r := r3) (a0 := D) (a1 := s2) (z0 := ⟨none, 0, 0⟩) (z1 := ⟨none, 0, 0⟩) (own ++ [lkE r1 D s2]) [e2, ⟨some r6, [.int .i64 who, .int .i64 (bI wr)], 2⟩] (by simp) (lk_get (r := r3) (a0 := D) (a1 := s2) (by simp) ?_))
    obtain ⟨ro', g, m, rr⟩ := frzE (own := own) [e2, ⟨some r6, [.int .i64 who, .int .i64 (bI wr)], 2⟩] ro hz
    refine ⟨⟨own, ro'⟩, (Gh.drop (by simp)).trans g, hk D s2 ro' m ⟨(hr.up m).d, ⟨rows ++ [(⟨some (Addr.mk r6 0 none), 2, 2⟩, [who, bI wr])], ⟨?_, ?_⟩, ?_⟩, o2.cap_le⟩⟩
    · have := rr e2 (by simp) _ _ o2
      simpa using this
    · intro x hx2
      simp only [List.mem_append, List.mem_singleton] at hx2
      rcases hx2 with hx2 | rfl
      · exact RdSl.up (rW.2 x hx2) (by simp) m
      · exact rr ⟨some r6, [.int .i64 who, .int .i64 (bI wr)], 2⟩ (by simp) _ _ (OwnsSl.at0 1 (by simp) (by omega) (by simp only [maxLen]; omega))
    · rw [List.map_append, eW]; simp [wq]
/-! ### done -/
def dServe : (Nat → Int) → List (Int × Bool) → (Nat → Int) × List (Int × Bool) × List Int
  | d, [] => (d, [], [])
  | d, x :: q => if dMay d x.2 = true then ((dServe (updN d x.1.toNat (1 + bI x.2)) q).1, (dServe (updN d x.1.toNat (1 + bI x.2)) q).2.1, x.1 :: (dServe (updN d x.1.toNat (1 + bI x.2)) q).2.2) else (d, x :: q, [])
def dDone4 (d : Nat → Int) (q : List (Int × Bool)) (who : Int) : ((Nat → Int) × List (Int × Bool) × List Int) × Int :=
  if ¬ (0 ≤ who ∧ who ≤ 7) then ((d, q, []), 1) else if d who.toNat = 0 then ((d, q, []), 5) else (dServe (updN d who.toNat 0) q, 0)
set_option maxHeartbeats 1000000 in
theorem ref_done_c {D W : SV} {d : Nat → Int} {q : List (Int × Bool)} {who : Int} {own : List Ent} {ro : Addr → Option Value} {post : Value → H → Prop} (hr : LkR ro D W d q) (hq : q.length ≤ 1000) (hqr : ∀ x ∈ q, 0 ≤ x.1 ∧ x.1 ≤ 7)
    (hk : ∀ D' W' ro' s' e', (∀ a v, ro a = some v → ro' a = some v) → LkR ro' D' W' (dDone4 d q who).1.1 (dDone4 d q who).1.2.1 → OwnsSl 1 s' e' (ints (dDone4 d q who).1.2.2) → post (.tuple (List.toArray [.agg (List.toArray (lkC D' W')), .slice s'.a s'.len s'.cap, .int .i64 (dDone4 d q who).2])) ⟨own ++ [e'], ro'⟩) :
    SemCall Tryd.prog 31 (List.toArray [.agg (List.toArray (lkC D W)), .int .i64 who]) ⟨own, ro⟩ post := by
  refine f31_call _ _ _ _ post ?_
  refine new2 (n1 := 2) (n2 := 2) rfl rfl (fun r1 r3 => ?_)
  have m1 : ∀ {D W : SV} {X : List Ent}, lkE r1 D W ∈ own ++ lkE r1 D W :: X := by simp
  have ge : Gh ⟨(own ++ [lkE r1 D W]) ++ lkE r3 D W :: [], ro⟩ ⟨own ++ [⟨none, [], 0⟩], ro⟩ := by
    have g1 := Gh.phantom own [] ro 0
    rw [List.append_nil] at g1
    exact (Gh.drop (by simp)).trans g1
  refine ref4_in_c ⟨_, rfl, VIf_not (fun hx => ?_) (fun hx => ?_)⟩
  · have := hk D W ro ⟨none, 0, 0⟩ ⟨none, [], 0⟩ (fun _ _ h => h)
    unfold dDone4 at this
    rw [if_pos hx] at this
    exact lk_finY (own := own) (Y := []) (r1 := r1) (r3 := r3) (a0 := D) (a1 := W) (z0 := ⟨none, 0, 0⟩) (z1 := ⟨none, 0, 0⟩) ⟨_, ge, this hr (OwnsSl.nil 1)⟩
  refine rS0 (lkE r1 D W) m1 rfl rfl (lk_at hr.d hx.1 hx.2 (VIf_eq (fun h0 => ?_) (fun h0 => ?_)))
  · have := hk D W ro ⟨none, 0, 0⟩ ⟨none, [], 0⟩ (fun _ _ h => h)
    unfold dDone4 at this
    rw [if_neg (not_not_intro hx), if_pos h0] at this
    exact lk_finY (own := own) (Y := []) (r1 := r1) (r3 := r3) (a0 := D) (a1 := W) (z0 := ⟨none, 0, 0⟩) (z1 := ⟨none, 0, 0⟩) ⟨_, ge, this hr (OwnsSl.nil 1)⟩
  unfold dDone4 at hk
  rw [if_neg (not_not_intro hx), if_neg h0] at hk
  refine rS0 (lkE r1 D W) m1 rfl rfl (ref4_upd_c hr.d hx.1 hx.2 (fun D1 ro1 q1 hD1 => ⟨D1, rfl, lk_w D1 W rfl (by decide) rfl ?_⟩))
  have hr1 : LkR ro1 D1 W (updN d who.toNat 0) q := ⟨hD1, (hr.up q1).w, hr.c⟩
  generalize updN d who.toNat 0 = d0 at hk hr1
  clear hD1
  refine ⟨fun out h => ∃ D W ro' eo, h = ⟨own ++ lkE r1 D W :: lkE r3 ⟨none, 0, 0⟩ ⟨none, 0, 0⟩ :: [eo], ro'⟩ ∧ (∀ a v, ro a = some v → ro' a = some v) ∧ LkR ro' D W (dServe d0 q).1 (dServe d0 q).2.1 ∧ OwnsSl 1 out eo (ints (dServe d0 q).2.2),
    ⟨fun n out h => ∃ D W ro' eo d1 q1 os, h = ⟨own ++ lkE r1 D W :: lkE r3 ⟨none, 0, 0⟩ ⟨none, 0, 0⟩ :: [eo], ro'⟩ ∧ (∀ a v, ro a = some v → ro' a = some v) ∧ LkR ro' D W d1 q1 ∧ OwnsSl 1 out eo (ints os) ∧ n = q1.length ∧ os.length + q1.length ≤ 1000 ∧ (∀ x ∈ q1, 0 ≤ x.1 ∧ x.1 ≤ 7) ∧
      dServe d0 q = ((dServe d1 q1).1, (dServe d1 q1).2.1, os ++ (dServe d1 q1).2.2), ⟨q.length, ⟨own ++ lkE r1 D1 W :: lkE r3 ⟨none, 0, 0⟩ ⟨none, 0, 0⟩ :: [⟨none, [], 0⟩], ro1⟩, ?_, D1, W, ro1, _, d0, q, [], rfl, q1, hr1, OwnsSl.nil 1, rfl, by simpa using hq, hqr, by simp⟩, ?_⟩, ?_⟩
  · have g1 := Gh.phantom (own ++ [lkE r1 D1 W, lkE r3 ⟨none, 0, 0⟩ ⟨none, 0, 0⟩]) [] ro1 0
    have g2 : Gh ⟨own ++ [lkE r1 D1 W, lkE r3 ⟨none, 0, 0⟩ ⟨none, 0, 0⟩], ro1⟩ ⟨own ++ lkE r1 D1 W :: lkE r3 ⟨none, 0, 0⟩ ⟨none, 0, 0⟩ :: [⟨none, [], 0⟩], ro1⟩ := by simpa using g1
    exact g2
  rotate_left
  · rintro _ out _ ⟨D, W, ro', eo, rfl, m, h1, h2⟩
    exact lk_finY (own := own) (Y := [eo]) (r1 := r1) (r3 := r3) (a0 := D) (a1 := W) (z0 := ⟨none, 0, 0⟩) (z1 := ⟨none, 0, 0⟩) ⟨_, Gh.drop (by simp), hk D W ro' out eo m h1 h2⟩
  clear hr hr1 ge q1 hq hqr
  rintro n _ out _ ⟨D, W, ro', eo, d1, q1, os, rfl, m, hr, ho, rfl, hl, hqr, hs⟩
  have hwl := hr.wl
  have hol := ho.sl_len
  rw [ints_length] at hol
  refine ⟨fun b h => h = ⟨own ++ lkE r1 D W :: lkE r3 ⟨none, 0, 0⟩ ⟨none, 0, 0⟩ :: [eo], ro'⟩ ∧ b = (match q1 with | [] => false | x :: _ => dMay d1 x.2), rS0 (lkE r1 D W) m1 rfl rfl (VIf_dec (fun hp => ?_) (fun hp => VIf_b (nomatch ·) (fun _ => gi ⟨rfl, ?_⟩))), ?_⟩
  · obtain ⟨x, q2, rfl⟩ : ∃ x q2, q1 = x :: q2 := by
      cases q1 with
      | nil => simp at hwl; omega
      | cons x q2 => exact ⟨x, q2, rfl⟩
    obtain ⟨bw, s, c, k1, k2, k3, k4, k5, k6, k7⟩ := hr.row (i := 0) (by omega) (x := x) rfl
    refine lk_get (r := r1) (a0 := D) (a1 := W) (by simp) (rS0 (lkE r1 D W) m1 rfl rfl ⟨bw, k1, by omega, by omega, s, k3 _, c, k4, by omega, by omega, bI x.2, k7 _, VIf_b (fun _ => ref_may_c hr.d ⟨_, rfl, gi ⟨rfl, rfl⟩⟩) (nomatch ·)⟩)
  · cases q1 with
    | nil => rfl
    | cons x q2 => simp at hwl; omega
  rintro _ b _ ⟨rfl, rfl⟩
  cases q1 with
  | nil => exact VIf_b (nomatch ·) (fun _ => gi ⟨D, W, ro', eo, rfl, m, by rw [hs]; exact hr, by rw [hs]; simpa [dServe] using ho⟩)
  | cons x q2 =>
    simp only [List.length_cons] at hl hwl
    have hx1 := hqr x (by simp)
    refine VIf_b (fun hb => ?_) (fun hb => ?_)
    rotate_left
    · have hb' : ¬ dMay d1 x.2 = true := by rw [show dMay d1 x.2 = false from hb]; simp
      refine gi ⟨D, W, ro', eo, rfl, m, ?_, ?_⟩
      · rw [hs]; simp only [dServe, if_neg hb']; exact hr
      · rw [hs]; simp only [dServe, if_neg hb', List.append_nil]; exact ho
    have hb' : dMay d1 x.2 = true := hb
    obtain ⟨bw, s, c, k1, k2, k3, k4, k5, k6, k7⟩ := hr.row (i := 0) (by omega) (x := x) rfl
    have hi : In64 (1 + bI x.2) := by cases x.2 <;> exact ⟨by decide, by decide⟩
    refine rS0 (lkE r1 D W) m1 rfl rfl (rS0 (lkE r1 D W) m1 rfl rfl ⟨bw, k1, by omega, by omega, s, k3 _, c, k4, by omega, by omega, x.1, k6 _, rS0 (lkE r1 D W) m1 rfl rfl ⟨bw, k1, by omega, by omega, s, k3 _, c, k4, by omega, by omega, bI x.2, k7 _, hi, ref4_upd_c hr.d hx1.1 hx1.2 (fun D2 ro2 m2 hD2 => ⟨D2, rfl, lk_w D2 W rfl (by decide) rfl ?_⟩)⟩⟩)
    have hr2 := hr.up m2
    obtain ⟨bw, s, c, k1, k2, k3, k4, k5, k6, k7⟩ := hr2.row (i := 0) (by omega) (x := x) rfl
    refine rS0 (lkE r1 D2 W) m1 rfl rfl ⟨bw, k1, by omega, by omega, s, k3 _, c, k4, by omega, by omega, x.1, k6 _, ?_⟩
    refine app_row grows_ints (vs := [.int .i64 x.1]) rfl ⟨rfl, trivial⟩ (own ++ [lkE r1 D2 W, lkE r3 ⟨none, 0, 0⟩ ⟨none, 0, 0⟩]) eo [] (by simp) ho (by omega) (fun s' e3 o3 _ => ?_)
    rw [List.append_assoc]
    refine rS0 (lkE r1 D2 W) m1 rfl rfl ⟨by omega, by omega, lk_w D2 ⟨if W.cap = 1 then W.a else Option.map (fun z => Addr.add z (1 * 1)) W.a, W.len - 1, W.cap - 1⟩ rfl (by decide) rfl ?_⟩
    refine ⟨q2.length, by simp, gi ⟨D2, ⟨if W.cap = 1 then W.a else Option.map (fun z => Addr.add z (1 * 1)) W.a, W.len - 1, W.cap - 1⟩, ro2, e3, updN d1 x.1.toNat (1 + bI x.2), q2, os ++ [x.1], rfl, fun a v h => m2 a v (m a v h), ⟨hD2, ?_, ?_⟩, by simpa [ints, intV] using o3, rfl, by simp; omega, fun y hy => hqr y (by simp [hy]), ?_⟩⟩
    · obtain ⟨rows, r, e⟩ := hr2.w
      refine ⟨rows.tail, ⟨?_, fun y hy => r.2 y (List.mem_of_mem_tail hy)⟩, ?_⟩
      · have := RdSl.drop r.1 (n := 1) (by omega) hr.c
        rw [List.drop_one, ← List.map_tail] at this
        exact this
      · rw [List.map_tail, e]; rfl
    · have := hr.c; dsimp only; omega
    · rw [hs]
      simp only [dServe, if_pos hb', List.append_assoc, List.singleton_append]
theorem ref_newlock_c {own : List Ent} {ro : Addr → Option Value} {post : Value → H → Prop} (hk : ∀ D ro', (∀ a v, ro a = some v → ro' a = some v) → LkR ro' D ⟨none, 0, 0⟩ (fun _ => 0) [] → post (.agg (List.toArray (lkC D ⟨none, 0, 0⟩))) ⟨own, ro'⟩) :
    SemCall Tryd.prog 28 (List.toArray []) ⟨own, ro⟩ post := by
  refine SemCall.wf (fun hw => ?_)
  refine f28_call _ post ?_
  intro r1 f1
  have hw1 := hw.add (e := lkE r1 ⟨none, 0, 0⟩ ⟨none, 0, 0⟩) f1 rfl
  refine ⟨by decide, by decide, by decide, by decide, ?_⟩
  intro r3 f3
  have e3 : (⟨some r3, repl ((8 : Int)).toNat [Value.int .i64 0], (repl ((8 : Int)).toNat [Value.int .i64 0]).length⟩ : Ent) = ⟨some r3, ints (rm 8 fun _ => 0), 8⟩ := rfl
  have hw3 := hw1.add (e := ⟨some r3, ints (rm 8 fun _ => 0), 8⟩) f3 rfl
  rw [List.append_assoc] at hw3
  refine lk_put (r := r1) (a0 := ⟨some (Addr.mk r3 0 none), 8, 8⟩) (a1 := ⟨none, 0, 0⟩) (z0 := ⟨none, 0, 0⟩) (z1 := ⟨none, 0, 0⟩) own [⟨some r3, ints (rm 8 fun _ => 0), 8⟩] (by rw [e3]; simp; rfl) ?_
  refine lk_get (r := r1) (a0 := ⟨some (Addr.mk r3 0 none), 8, 8⟩) (a1 := ⟨none, 0, 0⟩) (by simp) ?_
  obtain ⟨ro', g, m, rr⟩ := frzE (own := own) [⟨some r3, ints (rm 8 fun _ => 0), 8⟩] ro (hw3.sub (by simp))
  refine ⟨⟨own, ro'⟩, (Gh.drop (by simp)).trans g, hk _ ro' m ⟨rr ⟨some r3, ints (rm 8 fun _ => 0), 8⟩ (by simp) _ _ (OwnsSl.at0 (n := 8) 1 rfl (by omega) (by simp only [maxLen]; omega)), ⟨[], ⟨⟨rfl, fun _ => rfl, fun b hb => nomatch hb⟩, by simp⟩, rfl⟩, by decide⟩⟩
end Go.Proofs.YtkokdeenniejjaaDoor
