import Derived.Test.YtiaopgnnibidlaaDoorDk
namespace Go.Proofs.YtiaopgnnibidlaaDoor
open Go.Eng
set_option maxRecDepth 20000
/-! ### the struct latchgarthref4.Table, boxed -/
def tbC (a0 : SV) (a1 : SV) (a2 : SV) (a3 : SV) : List Value := [.slice a0.a a0.len a0.cap, .slice a1.a a1.len a1.cap, .slice a2.a a2.len a2.cap, .slice a3.a a3.len a3.cap]
def tbE (r : Nat) (a0 : SV) (a1 : SV) (a2 : SV) (a3 : SV) : Ent := ⟨some r, tbC a0 a1 a2 a3, 4⟩
theorem tb_one {a0 : SV} {a1 : SV} {a2 : SV} {a3 : SV} : allOne (tbC a0 a1 a2 a3) := ⟨rfl, rfl, rfl, rfl, trivial⟩
theorem tb_get {h : H} {r : Nat} {a0 : SV} {a1 : SV} {a2 : SV} {a3 : SV} {K : SV → SV → SV → SV → Prop} (he : tbE r a0 a1 a2 a3 ∈ h.own) (hK : K a0 a1 a2 a3) :
    ∃ x0 : SV, H.rd h (Addr.add (Addr.mk r 0 none) 0) (.slice x0.a x0.len x0.cap) ∧ ∃ x1 : SV, H.rd h (Addr.add (Addr.mk r 0 none) 1) (.slice x1.a x1.len x1.cap) ∧ ∃ x2 : SV, H.rd h (Addr.add (Addr.mk r 0 none) 2) (.slice x2.a x2.len x2.cap) ∧ ∃ x3 : SV, H.rd h (Addr.add (Addr.mk r 0 none) 3) (.slice x3.a x3.len x3.cap) ∧ K x0 x1 x2 x3 :=
  rS _ he rfl rfl (rS _ he rfl rfl (rS _ he rfl rfl (rS _ he rfl rfl (hK))))
theorem tb_put {own : List Ent} {ro : Addr → Option Value} {r : Nat} {a0 : SV} {a1 : SV} {a2 : SV} {a3 : SV} {z0 : SV} {z1 : SV} {z2 : SV} {z3 : SV} {K : H → Prop} (A C : List Ent) (hown : own = A ++ tbE r z0 z1 z2 z3 :: C) (hK : K ⟨A ++ tbE r a0 a1 a2 a3 :: C, ro⟩) :
    (tbC a0 a1 a2 a3).length = 4 ∧ (Program.underlying Tryd.prog 31).isSome = true ∧ H.wr ⟨own, ro⟩ (Addr.mk r 0 none) (tbC a0 a1 a2 a3) K :=
  ⟨rfl, rfl, wro A (tbE r z0 z1 z2 z3) C tb_one hown rfl (Nat.le_refl _) hK⟩
theorem tb_fin {own Y : List Ent} {ro : Addr → Option Value} {r1 r3 : Nat} {a0 : SV} {a1 : SV} {a2 : SV} {a3 : SV} {z0 : SV} {z1 : SV} {z2 : SV} {z3 : SV} {Q : SV → SV → SV → SV → Value} {post : Value → H → Prop} (hp : post (Q a0 a1 a2 a3) ⟨own, ro⟩) :
    ∃ x0 : SV, H.rd ⟨own ++ tbE r1 a0 a1 a2 a3 :: tbE r3 z0 z1 z2 z3 :: Y, ro⟩ (Addr.add (Addr.mk r1 0 none) 0) (.slice x0.a x0.len x0.cap) ∧ ∃ x1 : SV, H.rd ⟨own ++ tbE r1 a0 a1 a2 a3 :: tbE r3 z0 z1 z2 z3 :: Y, ro⟩ (Addr.add (Addr.mk r1 0 none) 1) (.slice x1.a x1.len x1.cap) ∧ ∃ x2 : SV, H.rd ⟨own ++ tbE r1 a0 a1 a2 a3 :: tbE r3 z0 z1 z2 z3 :: Y, ro⟩ (Addr.add (Addr.mk r1 0 none) 2) (.slice x2.a x2.len x2.cap) ∧ ∃ x3 : SV, H.rd ⟨own ++ tbE r1 a0 a1 a2 a3 :: tbE r3 z0 z1 z2 z3 :: Y, ro⟩ (Addr.add (Addr.mk r1 0 none) 3) (.slice x3.a x3.len x3.cap) ∧ 
    (tbC x0 x1 x2 x3).length = 4 ∧ (Program.underlying Tryd.prog 31).isSome = true ∧ H.wr ⟨own ++ tbE r1 a0 a1 a2 a3 :: tbE r3 z0 z1 z2 z3 :: Y, ro⟩ (Addr.mk r3 0 none) (tbC x0 x1 x2 x3) fun h =>
    ∃ y0 : SV, H.rd h (Addr.add (Addr.mk r3 0 none) 0) (.slice y0.a y0.len y0.cap) ∧ ∃ y1 : SV, H.rd h (Addr.add (Addr.mk r3 0 none) 1) (.slice y1.a y1.len y1.cap) ∧ ∃ y2 : SV, H.rd h (Addr.add (Addr.mk r3 0 none) 2) (.slice y2.a y2.len y2.cap) ∧ ∃ y3 : SV, H.rd h (Addr.add (Addr.mk r3 0 none) 3) (.slice y3.a y3.len y3.cap) ∧ VRet h (Q y0 y1 y2 y3) post :=
  tb_get (a0 := a0) (a1 := a1) (a2 := a2) (a3 := a3) (by simp) (tb_put (z0 := z0) (z1 := z1) (z2 := z2) (z3 := z3) (own ++ [tbE r1 a0 a1 a2 a3]) Y (by simp) (tb_get (a0 := a0) (a1 := a1) (a2 := a2) (a3 := a3) (by simp) ⟨⟨own, ro⟩, Gh.drop (by simp), hp⟩))
theorem tb_w {own C : List Ent} {ro : Addr → Option Value} {r1 : Nat} {a0 : SV} {a1 : SV} {a2 : SV} {a3 : SV} {j : Nat} {v : Value} {K : H → Prop} (b0 : SV) (b1 : SV) (b2 : SV) (b3 : SV) (h1 : v.oneCell' = true) (hj : 0 + j + 1 ≤ 4) (hs : spl (tbC a0 a1 a2 a3) (0 + j) [v] = tbC b0 b1 b2 b3)
    (hK : K ⟨own ++ tbE r1 b0 b1 b2 b3 :: C, ro⟩) : H.wr ⟨own ++ tbE r1 a0 a1 a2 a3 :: C, ro⟩ (Addr.add (Addr.mk r1 0 none) j) [v] K := by
  refine wF own (tbE r1 a0 a1 a2 a3) C ⟨h1, trivial⟩ rfl rfl hj ?_
  show K ⟨own ++ ⟨some r1, spl (tbC a0 a1 a2 a3) (0 + j) [v], 4⟩ :: C, ro⟩
  rw [hs]
  exact hK
/-! ### the document's table -/
structure TbR (ro : Addr → Option Value) (G Hs As Dt : SV) (t : TS) : Prop where
  g : RdSl ⟨[], ro⟩ G (ints (rm t.n t.g))
  h : RdSl ⟨[], ro⟩ Hs (ints (rm t.n fun k => (t.w k : Int)))
  a : RdSl ⟨[], ro⟩ As (ints (rm t.n fun k => (t.a k : Int)))
  d : RdSl ⟨[], ro⟩ Dt (ints (rm t.n fun k => if t.d k then 1 else 0))
theorem TbR.up {ro ro' : Addr → Option Value} {G Hs As Dt : SV} {t : TS} (h : TbR ro G Hs As Dt t) (m : ∀ a v, ro a = some v → ro' a = some v) : TbR ro' G Hs As Dt t :=
  ⟨RdSl.up h.g (by simp) m, RdSl.up h.h (by simp) m, RdSl.up h.a (by simp) m, RdSl.up h.d (by simp) m⟩
theorem rm_at {n : Nat} {f : Nat → Int} {s : SV} {own : List Ent} {ro : Addr → Option Value} (r : RdSl ⟨[], ro⟩ s (ints (rm n f))) {k : Nat} (hk : k < n) {K : Int → Prop} (hK : K (f k)) :
    ∃ b : Addr, s.a = some b ∧ 0 ≤ (k : Int) ∧ (k : Int) < ((s.len : Nat) : Int) ∧ ∃ x : Int, H.rd ⟨own, ro⟩ (Addr.add (Addr.add b (((k : Int)).toNat * 1)) 0) (Value.int .i64 x) ∧ K x := by
  have hl := r.len
  rw [ints_length, rm_len] at hl
  refine RdSl.idx (h := ⟨own, ro⟩) r.ro (by omega) (by omega) (fun x hx => ?_)
  rw [Int.toNat_natCast, rm_get _ hk] at hx
  cases hx; exact hK
theorem ref4_upd_c {n : Nat} {f : Nat → Int} {s : SV} {v : Int} {own : List Ent} {ro : Addr → Option Value} {post : Value → H → Prop} (r : RdSl ⟨[], ro⟩ s (ints (rm n f))) (hn : n ≤ 1000000) {k : Nat} (hk : k < n)
    (hK : ∀ (s' : SV) (ro' : Addr → Option Value), (∀ a v, ro a = some v → ro' a = some v) → RdSl ⟨[], ro'⟩ s' (ints (rm n (updN f k v))) → post (.slice s'.a s'.len s'.cap) ⟨own, ro'⟩) :
    SemCall Tryd.prog 30 (List.toArray [.slice s.a s.len s.cap, .int .i64 (k : Int), .int .i64 v]) ⟨own, ro⟩ post := by
  have hl := r.len
  rw [ints_length, rm_len] at hl
  refine ref4_set_c r.ro (by omega) (by omega) (by omega) (fun s' ro' m h _ => hK s' ro' m ?_)
  rw [Int.toNat_natCast, rm_set] at h
  exact h
theorem cast_upd {f : Nat → Nat} {k v : Nat} : (fun q => ((updN f k v) q : Int)) = updN (fun q => (f q : Int)) k (v : Int) := by
  funext q; unfold updN; split <;> rfl
theorem flag_upd {f : Nat → Bool} {k : Nat} {v : Bool} : (fun q => if (updN f k v) q then (1 : Int) else 0) = updN (fun q => if f q then (1 : Int) else 0) k (if v then 1 else 0) := by
  funext q; unfold updN
  by_cases h : q = k
  · simp only [if_pos h]
  · simp only [if_neg h]
def wHas (s : SV) : SV := s
set_option maxHeartbeats 2000000 in
theorem ref_steptable_c {t : TS} {i : Nat} {G Hs As Dt : SV} {own : List Ent} {ro : Addr → Option Value} {post : Value → H → Prop} (hr : TbR ro G Hs As Dt t) (h3 : 3 ≤ t.n) (h6 : t.n ≤ 6) (hi : i < t.n)
    (hk : ∀ G' H' A' D' ro', (∀ a v, ro a = some v → ro' a = some v) → TbR ro' G' H' A' D' (tLine t i (prv t.n i)).1 → post (.tuple (List.toArray [.agg (List.toArray (tbC G' H' A' D')), .bool (tLine t i (prv t.n i)).2])) ⟨own, ro'⟩) :
    SemCall Tryd.prog 11 (List.toArray [.agg (List.toArray (tbC G Hs As Dt)), .int .i64 (i : Int)]) ⟨own, ro⟩ post := by
  refine f11_call _ _ _ _ _ _ post ?_
  have hg := hr.g.len
  rw [ints_length, rm_len] at hg
  refine new2 (n1 := 4) (n2 := 4) rfl rfl (fun r1 r3 => ?_)
  have m1 : ∀ {A B C D : SV} {X : List Ent}, tbE r1 A B C D ∈ own ++ tbE r1 A B C D :: X := by simp
  have hl := prv_lt (i := i) h3
  have hx := nxt_lt (i := i) h3
  obtain ⟨l, hld⟩ : ∃ l, l = prv t.n i := ⟨_, rfl⟩
  obtain ⟨x, hxd⟩ : ∃ x, x = nxt t.n i := ⟨_, rfl⟩
  rw [← hld] at hk hl
  rw [← hxd] at hx
  have e1 : Int.tmod (((i : Int) + ((G.len : Nat) : Int)) - 1) ((G.len : Nat) : Int) = (l : Int) := by
    rw [hg, show ((i : Int) + ((t.n : Nat) : Int)) - 1 = ((i + t.n - 1 : Nat) : Int) by omega, hld]; rfl
  have e2 : Int.tmod ((i : Int) + 1) ((G.len : Nat) : Int) = (x : Int) := by
    rw [hg, show ((i : Int) + 1) = ((i + 1 : Nat) : Int) by omega, hxd]; rfl
  unfold tLine at hk
  refine rS0 (tbE r1 G Hs As Dt) m1 rfl rfl (rS0 (tbE r1 G Hs As Dt) m1 rfl rfl (rm_at hr.g hi (VIf_eq (fun z => tb_fin (own := own) (Y := []) (r1 := r1) (r3 := r3) (a0 := G) (a1 := Hs) (a2 := As) (a3 := Dt) (z0 := ⟨none, 0, 0⟩) (z1 := ⟨none, 0, 0⟩) (z2 := ⟨none, 0, 0⟩) (z3 := ⟨none, 0, 0⟩) ?_) (fun z => ?_))))
  · rw [if_pos z] at hk; exact hk G Hs As Dt ro (fun _ _ h => h) hr
  rw [if_neg z] at hk
  refine ⟨⟨by omega, by omega⟩, ⟨by omega, by omega⟩, by omega, ?_⟩
  refine new1a (A := own) (B := [tbE r1 G Hs As Dt, tbE r3 ⟨none, 0, 0⟩ ⟨none, 0, 0⟩ ⟨none, 0, 0⟩ ⟨none, 0, 0⟩]) (n := 2) rfl (fun r18 => ?_)
  refine ⟨⟨by omega, by omega⟩, ⟨by omega, by omega⟩, by omega, ⟨by omega, by omega⟩, by omega, ?_⟩
  refine new1a (A := own) (B := [tbE r1 G Hs As Dt, tbE r3 ⟨none, 0, 0⟩ ⟨none, 0, 0⟩ ⟨none, 0, 0⟩ ⟨none, 0, 0⟩, ⟨some r18, [.int .i64 (Int.tmod (((i : Int) + ((G.len : Nat) : Int)) - 1) ((G.len : Nat) : Int)), .int .i64 (i : Int)], 2⟩]) (n := 2) rfl (fun r20 => ?_)
  rw [e1, e2]
  -- what stands in forks and others
  have rF : ∀ {ro' : Addr → Option Value} {P : List Ent} (k f : Nat), [(l : Int), (i : Int)][k]? = some (f : Int) → H.rd ⟨own ++ (P ++ [⟨some r18, ints [(l : Int), (i : Int)], 2⟩, ⟨some r20, ints [(l : Int), (x : Int)], 2⟩]), ro'⟩ (Addr.add (Addr.add (Addr.mk r18 0 none) (((k : Int)).toNat * 1)) 0) (Value.int .i64 (f : Int)) := by
    intro ro' P k f h
    rw [add_mk', add_mk']
    refine rd_ints ⟨some r18, ints [(l : Int), (i : Int)], 2⟩ (by simp) rfl rfl ?_
    rw [show 0 + (k : Int).toNat * 1 + 0 = k by simp]; exact h
  have rO : ∀ {ro' : Addr → Option Value} {P : List Ent} (k f : Nat), [(l : Int), (x : Int)][k]? = some (f : Int) → H.rd ⟨own ++ (P ++ [⟨some r18, ints [(l : Int), (i : Int)], 2⟩, ⟨some r20, ints [(l : Int), (x : Int)], 2⟩]), ro'⟩ (Addr.add (Addr.add (Addr.mk r20 0 none) (((k : Int)).toNat * 1)) 0) (Value.int .i64 (f : Int)) := by
    intro ro' P k f h
    rw [add_mk', add_mk']
    refine rd_ints ⟨some r20, ints [(l : Int), (x : Int)], 2⟩ (by simp) rfl rfl ?_
    rw [show 0 + (k : Int).toNat * 1 + 0 = k by simp]; exact h
  obtain ⟨Z, hZ⟩ : ∃ Z, Z = tbE r3 ⟨none, 0, 0⟩ ⟨none, 0, 0⟩ ⟨none, 0, 0⟩ ⟨none, 0, 0⟩ := ⟨_, rfl⟩
  have fo : ∀ k : Nat, k < 2 → ∃ f o : Nat, [(l : Int), (i : Int)][k]? = some (f : Int) ∧ [(l : Int), (x : Int)][k]? = some (o : Int) ∧ f < t.n ∧ o < t.n ∧ ((k = 0 ∧ f = l ∧ o = l) ∨ (k = 1 ∧ f = i ∧ o = x)) := by
    intro k hk
    obtain rfl | rfl : k = 0 ∨ k = 1 := by omega
    · exact ⟨l, l, rfl, rfl, hl, hl, .inl ⟨rfl, rfl, rfl⟩⟩
    · exact ⟨i, x, rfl, rfl, hi, hx, .inr ⟨rfl, rfl, rfl⟩⟩
  refine ⟨fun h => h = ⟨own ++ tbE r1 G Hs As Dt :: tbE r3 ⟨none, 0, 0⟩ ⟨none, 0, 0⟩ ⟨none, 0, 0⟩ ⟨none, 0, 0⟩ :: [⟨some r18, ints [(l : Int), (i : Int)], 2⟩, ⟨some r20, ints [(l : Int), (x : Int)], 2⟩], ro⟩ ∧ ¬ tGiv t i l ∧ ¬ tGiv t i i, ⟨fun m k h => ∃ q : Nat, k = (q : Int) ∧ q ≤ 2 ∧ m = 2 - q ∧ h = ⟨own ++ tbE r1 G Hs As Dt :: tbE r3 ⟨none, 0, 0⟩ ⟨none, 0, 0⟩ ⟨none, 0, 0⟩ ⟨none, 0, 0⟩ :: [⟨some r18, ints [(l : Int), (i : Int)], 2⟩, ⟨some r20, ints [(l : Int), (x : Int)], 2⟩], ro⟩ ∧ (0 < q → ¬ tGiv t i l) ∧ (1 < q → ¬ tGiv t i i),
    ⟨_, gi ⟨0, rfl, by omega, rfl, rfl, fun h => absurd h (by omega), fun h => absurd h (by omega)⟩⟩, ?_⟩, ?_⟩
  · rintro m _ k _ ⟨q, rfl, hq, rfl, rfl, g1, g2⟩
    refine VIf_dec (fun hq2 => ?_) (fun hq2 => gi ⟨rfl, g1 (by omega), g2 (by omega)⟩)
    obtain ⟨f, o, hf, ho, hfn, hon, hfo⟩ := fo q (by omega)
    refine ⟨_, rfl, by omega, by omega, (f : Int), rF (P := [tbE r1 G Hs As Dt, tbE r3 ⟨none, 0, 0⟩ ⟨none, 0, 0⟩ ⟨none, 0, 0⟩ ⟨none, 0, 0⟩]) q f hf, ?_⟩
    refine join_bk (h := ⟨own ++ tbE r1 G Hs As Dt :: tbE r3 ⟨none, 0, 0⟩ ⟨none, 0, 0⟩ ⟨none, 0, 0⟩ ⟨none, 0, 0⟩ :: [⟨some r18, ints [(l : Int), (i : Int)], 2⟩, ⟨some r20, ints [(l : Int), (x : Int)], 2⟩], ro⟩) (decide (tGiv t i f)) ?_ (rS0 (tbE r1 G Hs As Dt) m1 rfl rfl (rm_at hr.h hfn (VIf_eq (fun y1 => rS0 (tbE r1 G Hs As Dt) m1 rfl rfl (rm_at hr.d hfn (VIf_eq (fun y2 => rS0 (tbE r1 G Hs As Dt) m1 rfl rfl (rm_at hr.a hfn (gi ⟨rfl, ?_⟩))) (fun y2 => gi ⟨rfl, ?_⟩)))) (fun y1 => gi ⟨rfl, ?_⟩))))
    rotate_left
    · have y2' : t.d f = true := by
        cases hd : t.d f
        · rw [hd] at y2; exact absurd y2 (by decide)
        · rfl
      show decide ((t.a f : Int) = (i : Int)) = decide (tGiv t i f)
      exact decide_eq_decide.2 ⟨fun h => ⟨by omega, y2', by omega⟩, fun h => by have := h.2.2; omega⟩
    · refine (decide_eq_false fun h => y2 ?_).symm
      rw [h.2.1]; rfl
    · exact (decide_eq_false fun h => y1 (by rw [h.1])).symm
    refine VIf_dec (fun hgv => ?_) (fun hgv => ⟨⟨by omega, by omega⟩, 2 - (q + 1), by omega, gi ⟨q + 1, by omega, by omega, rfl, rfl, fun h => ?_, fun h => ?_⟩⟩)
    rotate_left
    · rcases hfo with ⟨rfl, rfl, _⟩ | ⟨rfl, rfl, _⟩
      · exact hgv
      · exact g1 (by omega)
    · rcases hfo with ⟨rfl, rfl, _⟩ | ⟨rfl, rfl, _⟩
      · omega
      · exact hgv
    have hres : (if tGiv t i l then (t.setF l l (t.a l) false, true) else if tGiv t i i then (t.setF i x (t.a i) false, true) else (t, false)) = (t.setF f o (t.a f) false, true) := by
      rcases hfo with ⟨rfl, rfl, rfl⟩ | ⟨rfl, rfl, rfl⟩
      · rw [if_pos hgv]
      · rw [if_neg (g1 (by omega)), if_pos hgv]
    have hres2 : (tLine t i l) = (t.setF f o (t.a f) false, true) := by
      unfold tLine
      rw [if_neg z]
      rcases hfo with ⟨rfl, rfl, rfl⟩ | ⟨rfl, rfl, rfl⟩
      · rw [if_pos hgv]
      · rw [if_neg (g1 (by omega)), if_pos hgv, ← hxd]
    have hk' : ∀ G' H' A' D' ro', (∀ a v, ro a = some v → ro' a = some v) → TbR ro' G' H' A' D' (tLine t i l).1 → post (.tuple (List.toArray [.agg (List.toArray (tbC G' H' A' D')), .bool (tLine t i l).2])) ⟨own, ro'⟩ := by
      unfold tLine
      rw [if_neg z]
      exact hk
    rw [hres2] at hk'
    refine rS0 (tbE r1 G Hs As Dt) m1 rfl rfl ⟨_, rfl, by omega, by omega, (o : Int), rO (P := [tbE r1 G Hs As Dt, tbE r3 ⟨none, 0, 0⟩ ⟨none, 0, 0⟩ ⟨none, 0, 0⟩ ⟨none, 0, 0⟩]) q o ho, ?_⟩
    refine ref4_upd_c hr.h (by omega) hfn (fun H' ro1 q1 hh => ⟨H', rfl, tb_w G H' As Dt rfl (by decide) rfl ?_⟩)
    refine rS0 (tbE r1 G H' As Dt) m1 rfl rfl (ref4_upd_c (RdSl.up hr.d (by simp) q1) (by omega) hfn (fun D' ro2 q2 hd => ⟨D', rfl, tb_w G H' As D' rfl (by decide) rfl ?_⟩))
    refine tb_fin (own := own) (Y := [⟨some r18, ints [(l : Int), (i : Int)], 2⟩, ⟨some r20, ints [(l : Int), (x : Int)], 2⟩]) (r1 := r1) (r3 := r3) (a0 := G) (a1 := H') (a2 := As) (a3 := D') (z0 := ⟨none, 0, 0⟩) (z1 := ⟨none, 0, 0⟩) (z2 := ⟨none, 0, 0⟩) (z3 := ⟨none, 0, 0⟩) ?_
    have u2 : ∀ a v, ro a = some v → ro2 a = some v := fun a v h => q2 a v (q1 a v h)
    refine hk' G H' As D' ro2 u2 ⟨RdSl.up hr.g (by simp) u2, ?_, ?_, ?_⟩
    · show RdSl ⟨[], ro2⟩ H' (ints (rm t.n fun k => ((updN t.w f o) k : Int)))
      rw [cast_upd]; exact RdSl.up hh (by simp) q2
    · show RdSl ⟨[], ro2⟩ As (ints (rm t.n fun k => ((updN t.a f (t.a f)) k : Int)))
      rw [updN_self]; exact RdSl.up hr.a (by simp) u2
    · show RdSl ⟨[], ro2⟩ D' (ints (rm t.n fun k => if (updN t.d f false) k then 1 else 0))
      rw [flag_upd]; exact hd
  rintro _ _ ⟨rfl, ng1, ng2⟩
  rw [if_neg ng1, if_neg ng2] at hk
  refine rS0 (tbE r1 G Hs As Dt) m1 rfl rfl (rm_at hr.g hi (VIf_eq (fun z0 => tb_fin (own := own) (Y := [⟨some r18, ints [(l : Int), (i : Int)], 2⟩, ⟨some r20, ints [(l : Int), (x : Int)], 2⟩]) (r1 := r1) (r3 := r3) (a0 := G) (a1 := Hs) (a2 := As) (a3 := Dt) (z0 := ⟨none, 0, 0⟩) (z1 := ⟨none, 0, 0⟩) (z2 := ⟨none, 0, 0⟩) (z3 := ⟨none, 0, 0⟩) ?_) (fun z0 => ?_)))
  · rw [if_pos z0] at hk; exact hk G Hs As Dt ro (fun _ _ h => h) hr
  rw [if_neg z0] at hk
  refine join_bk (h := ⟨own ++ tbE r1 G Hs As Dt :: tbE r3 ⟨none, 0, 0⟩ ⟨none, 0, 0⟩ ⟨none, 0, 0⟩ ⟨none, 0, 0⟩ :: [⟨some r18, ints [(l : Int), (i : Int)], 2⟩, ⟨some r20, ints [(l : Int), (x : Int)], 2⟩], ro⟩) (decide (t.w l = i ∧ t.w i = i)) ?_ (rS0 (tbE r1 G Hs As Dt) m1 rfl rfl ⟨_, rfl, by decide, by decide, (l : Int), rF (P := [tbE r1 G Hs As Dt, tbE r3 ⟨none, 0, 0⟩ ⟨none, 0, 0⟩ ⟨none, 0, 0⟩ ⟨none, 0, 0⟩]) 0 l rfl, rm_at hr.h hl (VIf_eq (fun y1 => rS0 (tbE r1 G Hs As Dt) m1 rfl rfl ⟨_, rfl, by decide, by decide, (i : Int), rF (P := [tbE r1 G Hs As Dt, tbE r3 ⟨none, 0, 0⟩ ⟨none, 0, 0⟩ ⟨none, 0, 0⟩ ⟨none, 0, 0⟩]) 1 i rfl, rm_at hr.h hi (gi ⟨rfl, ?_⟩)⟩) (fun y1 => gi ⟨rfl, ?_⟩))⟩)
  rotate_left
  · show decide ((t.w i : Int) = (i : Int)) = decide (t.w l = i ∧ t.w i = i)
    exact decide_eq_decide.2 ⟨fun h => ⟨by omega, by omega⟩, fun h => by have := h.2; omega⟩
  · exact (decide_eq_false fun h => y1 (by rw [h.1])).symm
  refine VIf_dec (fun c => ?_) (fun c => ?_)
  · rw [if_pos c] at hk
    refine rS0 (tbE r1 G Hs As Dt) m1 rfl rfl (ref4_upd_c hr.g (by omega) hi (fun G' ro1 q1 hg' => ⟨G', rfl, tb_w G' Hs As Dt rfl (by decide) rfl ?_⟩))
    have hd0 := RdSl.up hr.d (own2 := []) (by simp) q1
    refine ⟨fun h => ∃ D' ro2, (∀ a v, ro1 a = some v → ro2 a = some v) ∧ RdSl ⟨[], ro2⟩ D' (ints (rm t.n (updN (updN (fun k => if t.d k then 1 else 0) l 1) i 1))) ∧ h = ⟨own ++ tbE r1 G' Hs As D' :: tbE r3 ⟨none, 0, 0⟩ ⟨none, 0, 0⟩ ⟨none, 0, 0⟩ ⟨none, 0, 0⟩ :: [⟨some r18, ints [(l : Int), (i : Int)], 2⟩, ⟨some r20, ints [(l : Int), (x : Int)], 2⟩], ro2⟩, ⟨_, rfl, by decide, by decide, _, rfl, by decide, by decide, ?_⟩, ?_⟩
    · have f0 : ∀ {ro' : Addr → Option Value}, H.rd ⟨own ++ tbE r1 G' Hs As Dt :: tbE r3 ⟨none, 0, 0⟩ ⟨none, 0, 0⟩ ⟨none, 0, 0⟩ ⟨none, 0, 0⟩ :: [⟨some r18, ints [(l : Int), (i : Int)], 2⟩, ⟨some r20, ints [(l : Int), (x : Int)], 2⟩], ro'⟩ (Addr.add (Addr.add (Addr.mk r18 0 none) (((0 : Int)).toNat * 1)) 0) (Value.int .i64 (l : Int)) := rF (P := [tbE r1 G' Hs As Dt, tbE r3 ⟨none, 0, 0⟩ ⟨none, 0, 0⟩ ⟨none, 0, 0⟩ ⟨none, 0, 0⟩]) 0 l rfl
      have f1 : ∀ {ro' : Addr → Option Value}, H.rd ⟨own ++ tbE r1 G' Hs As Dt :: tbE r3 ⟨none, 0, 0⟩ ⟨none, 0, 0⟩ ⟨none, 0, 0⟩ ⟨none, 0, 0⟩ :: [⟨some r18, ints [(l : Int), (i : Int)], 2⟩, ⟨some r20, ints [(l : Int), (x : Int)], 2⟩], ro'⟩ (Addr.add (Addr.add (Addr.mk r18 0 none) (((1 : Int)).toNat * 1)) 0) (Value.int .i64 (i : Int)) := rF (P := [tbE r1 G' Hs As Dt, tbE r3 ⟨none, 0, 0⟩ ⟨none, 0, 0⟩ ⟨none, 0, 0⟩ ⟨none, 0, 0⟩]) 1 i rfl
      have s1 : ∀ {K : Value → H → Prop}, (∀ D1 ro2, (∀ a v, ro1 a = some v → ro2 a = some v) → RdSl ⟨[], ro2⟩ D1 (ints (rm t.n (updN (fun k => if t.d k then 1 else 0) l 1))) → K (.slice D1.a D1.len D1.cap) ⟨own ++ tbE r1 G' Hs As Dt :: tbE r3 ⟨none, 0, 0⟩ ⟨none, 0, 0⟩ ⟨none, 0, 0⟩ ⟨none, 0, 0⟩ :: [⟨some r18, ints [(l : Int), (i : Int)], 2⟩, ⟨some r20, ints [(l : Int), (x : Int)], 2⟩], ro2⟩) → SemCall Tryd.prog 30 (List.toArray [.slice Dt.a Dt.len Dt.cap, .int .i64 (l : Int), .int .i64 1]) ⟨own ++ tbE r1 G' Hs As Dt :: tbE r3 ⟨none, 0, 0⟩ ⟨none, 0, 0⟩ ⟨none, 0, 0⟩ ⟨none, 0, 0⟩ :: [⟨some r18, ints [(l : Int), (i : Int)], 2⟩, ⟨some r20, ints [(l : Int), (x : Int)], 2⟩], ro1⟩ K := fun hK => ref4_upd_c hd0 (by omega) hl hK
      have s2 : ∀ {D1 : SV} {ro2 : Addr → Option Value} {K : Value → H → Prop}, (∀ a v, ro1 a = some v → ro2 a = some v) → RdSl ⟨[], ro2⟩ D1 (ints (rm t.n (updN (fun k => if t.d k then 1 else 0) l 1))) → (∀ D' ro3, (∀ a v, ro1 a = some v → ro3 a = some v) → RdSl ⟨[], ro3⟩ D' (ints (rm t.n (updN (updN (fun k => if t.d k then 1 else 0) l 1) i 1))) → K (.slice D'.a D'.len D'.cap) ⟨own ++ tbE r1 G' Hs As Dt :: tbE r3 ⟨none, 0, 0⟩ ⟨none, 0, 0⟩ ⟨none, 0, 0⟩ ⟨none, 0, 0⟩ :: [⟨some r18, ints [(l : Int), (i : Int)], 2⟩, ⟨some r20, ints [(l : Int), (x : Int)], 2⟩], ro3⟩) →
          SemCall Tryd.prog 30 (List.toArray [.slice D1.a D1.len D1.cap, .int .i64 (i : Int), .int .i64 1]) ⟨own ++ tbE r1 G' Hs As Dt :: tbE r3 ⟨none, 0, 0⟩ ⟨none, 0, 0⟩ ⟨none, 0, 0⟩ ⟨none, 0, 0⟩ :: [⟨some r18, ints [(l : Int), (i : Int)], 2⟩, ⟨some r20, ints [(l : Int), (x : Int)], 2⟩], ro2⟩ K := fun q2 h1 hK => ref4_upd_c h1 (by omega) hi (fun D' ro3 q3 h3 => hK D' ro3 (fun a v h => q3 a v (q2 a v h)) h3)
      repeat' first
        | exact s1 (fun D1 ro2 q2 h1 => ⟨D1, rfl, (i : Int), f1, s2 q2 h1 (fun D' ro3 q3 h2 => ⟨D', rfl, tb_w G' Hs As D' rfl (by decide) rfl (gi ⟨D', ro3, q3, h2, rfl⟩)⟩)⟩)
        | exact s1 (fun D1 ro2 q2 h1 => ⟨D1, rfl, s2 q2 h1 (fun D' ro3 q3 h2 => ⟨D', rfl, tb_w G' Hs As D' rfl (by decide) rfl (gi ⟨D', ro3, q3, h2, rfl⟩)⟩)⟩)
        | refine ⟨(l : Int), f0, ?_⟩
        | refine ⟨(i : Int), f1, ?_⟩
        | refine rS0 (tbE r1 G' Hs As Dt) m1 rfl rfl ?_
        | refine ⟨?_, ?_⟩
    rintro _ _ ⟨D', ro2, q2, hd2, rfl⟩
    refine tb_fin (own := own) (Y := [⟨some r18, ints [(l : Int), (i : Int)], 2⟩, ⟨some r20, ints [(l : Int), (x : Int)], 2⟩]) (r1 := r1) (r3 := r3) (a0 := G') (a1 := Hs) (a2 := As) (a3 := D') (z0 := ⟨none, 0, 0⟩) (z1 := ⟨none, 0, 0⟩) (z2 := ⟨none, 0, 0⟩) (z3 := ⟨none, 0, 0⟩) ?_
    have u2 : ∀ a v, ro a = some v → ro2 a = some v := fun a v h => q2 a v (q1 a v h)
    refine hk G' Hs As D' ro2 u2 ⟨?_, ?_, ?_, ?_⟩
    · exact RdSl.up hg' (by simp) q2
    · show RdSl ⟨[], ro2⟩ Hs (ints (rm t.n fun k => ((updN (updN t.w l (t.w l)) i (updN t.w l (t.w l) i)) k : Int)))
      rw [updN_self, updN_self]; exact RdSl.up hr.h (by simp) u2
    · show RdSl ⟨[], ro2⟩ As (ints (rm t.n fun k => ((updN (updN t.a l (t.a l)) i (updN t.a l (t.a l) i)) k : Int)))
      rw [updN_self, updN_self]; exact RdSl.up hr.a (by simp) u2
    · show RdSl ⟨[], ro2⟩ D' (ints (rm t.n fun k => if (updN (updN t.d l true) i true) k then 1 else 0))
      rw [flag_upd, flag_upd]; exact hd2
  rw [if_neg c] at hk
  refine ⟨fun h => h = ⟨own ++ tbE r1 G Hs As Dt :: tbE r3 ⟨none, 0, 0⟩ ⟨none, 0, 0⟩ ⟨none, 0, 0⟩ ⟨none, 0, 0⟩ :: [⟨some r18, ints [(l : Int), (i : Int)], 2⟩, ⟨some r20, ints [(l : Int), (x : Int)], 2⟩], ro⟩ ∧ ¬ tAsk t i l ∧ ¬ tAsk t i i, ⟨fun m k h => ∃ q : Nat, k = (q : Int) ∧ q ≤ 2 ∧ m = 2 - q ∧ h = ⟨own ++ tbE r1 G Hs As Dt :: tbE r3 ⟨none, 0, 0⟩ ⟨none, 0, 0⟩ ⟨none, 0, 0⟩ ⟨none, 0, 0⟩ :: [⟨some r18, ints [(l : Int), (i : Int)], 2⟩, ⟨some r20, ints [(l : Int), (x : Int)], 2⟩], ro⟩ ∧ (0 < q → ¬ tAsk t i l) ∧ (1 < q → ¬ tAsk t i i), ⟨_, gi ⟨0, rfl, by omega, rfl, rfl, fun h => absurd h (by omega), fun h => absurd h (by omega)⟩⟩, ?_⟩, ?_⟩
  · rintro m _ k _ ⟨q, rfl, hq, rfl, rfl, g1, g2⟩
    refine VIf_dec (fun hq2 => ?_) (fun hq2 => gi ⟨rfl, g1 (by omega), g2 (by omega)⟩)
    obtain ⟨f, o, hf, ho, hfn, hon, hfo⟩ := fo q (by omega)
    refine ⟨_, rfl, by omega, by omega, (f : Int), rF (P := [tbE r1 G Hs As Dt, tbE r3 ⟨none, 0, 0⟩ ⟨none, 0, 0⟩ ⟨none, 0, 0⟩ ⟨none, 0, 0⟩]) q f hf, ?_⟩
    refine join_bk (h := ⟨own ++ tbE r1 G Hs As Dt :: tbE r3 ⟨none, 0, 0⟩ ⟨none, 0, 0⟩ ⟨none, 0, 0⟩ ⟨none, 0, 0⟩ :: [⟨some r18, ints [(l : Int), (i : Int)], 2⟩, ⟨some r20, ints [(l : Int), (x : Int)], 2⟩], ro⟩) (decide (tAsk t i f)) ?_ (rS0 (tbE r1 G Hs As Dt) m1 rfl rfl (rm_at hr.h hfn (VIf_ne (fun y1 => rS0 (tbE r1 G Hs As Dt) m1 rfl rfl (rm_at hr.a hfn (gi ⟨rfl, ?_⟩))) (fun y1 => gi ⟨rfl, ?_⟩))))
    rotate_left
    · show decide ((t.a f : Int) = (i : Int)) = decide (tAsk t i f)
      exact decide_eq_decide.2 ⟨fun h => ⟨fun h2 => y1 (by rw [h2]), by omega⟩, fun h => by have := h.2; omega⟩
    · exact (decide_eq_false fun h => h.1 (by omega)).symm
    refine VIf_dec (fun hgv => ?_) (fun hgv => ⟨⟨by omega, by omega⟩, 2 - (q + 1), by omega, gi ⟨q + 1, by omega, by omega, rfl, rfl, fun h => ?_, fun h => ?_⟩⟩)
    rotate_left
    · rcases hfo with ⟨rfl, rfl, _⟩ | ⟨rfl, rfl, _⟩
      · exact hgv
      · exact g1 (by omega)
    · rcases hfo with ⟨rfl, rfl, _⟩ | ⟨rfl, rfl, _⟩
      · omega
      · exact hgv
    have hres : ∀ k' : TS × Bool, k' = (if tAsk t i l then (t.setF l (t.w l) l (t.d l), true) else if tAsk t i i then (t.setF i (t.w i) (nxt t.n i) (t.d i), true) else (t, false)) → k' = (t.setF f (t.w f) o (t.d f), true) := by
      rintro _ rfl
      rcases hfo with ⟨rfl, rfl, rfl⟩ | ⟨rfl, rfl, rfl⟩
      · rw [if_pos hgv]
      · rw [if_neg (g1 (by omega)), if_pos hgv, ← hxd]
    rw [hres _ rfl] at hk
    refine rS0 (tbE r1 G Hs As Dt) m1 rfl rfl ⟨_, rfl, by omega, by omega, (o : Int), rO (P := [tbE r1 G Hs As Dt, tbE r3 ⟨none, 0, 0⟩ ⟨none, 0, 0⟩ ⟨none, 0, 0⟩ ⟨none, 0, 0⟩]) q o ho, ?_⟩
    refine ref4_upd_c hr.a (by omega) hfn (fun A' ro1 q1 ha => ⟨A', rfl, tb_w G Hs A' Dt rfl (by decide) rfl ?_⟩)
    refine tb_fin (own := own) (Y := [⟨some r18, ints [(l : Int), (i : Int)], 2⟩, ⟨some r20, ints [(l : Int), (x : Int)], 2⟩]) (r1 := r1) (r3 := r3) (a0 := G) (a1 := Hs) (a2 := A') (a3 := Dt) (z0 := ⟨none, 0, 0⟩) (z1 := ⟨none, 0, 0⟩) (z2 := ⟨none, 0, 0⟩) (z3 := ⟨none, 0, 0⟩) ?_
    refine hk G Hs A' Dt ro1 q1 ⟨RdSl.up hr.g (by simp) q1, ?_, ?_, ?_⟩
    · show RdSl ⟨[], ro1⟩ Hs (ints (rm t.n fun k => ((updN t.w f (t.w f)) k : Int)))
      rw [updN_self]; exact RdSl.up hr.h (by simp) q1
    · show RdSl ⟨[], ro1⟩ A' (ints (rm t.n fun k => ((updN t.a f o) k : Int)))
      rw [cast_upd]; exact ha
    · show RdSl ⟨[], ro1⟩ Dt (ints (rm t.n fun k => if (updN t.d f (t.d f)) k then 1 else 0))
      rw [updN_self]; exact RdSl.up hr.d (by simp) q1
  rintro _ _ ⟨rfl, na1, na2⟩
  rw [if_neg na1, if_neg na2] at hk
  refine tb_fin (own := own) (Y := [⟨some r18, ints [(l : Int), (i : Int)], 2⟩, ⟨some r20, ints [(l : Int), (x : Int)], 2⟩]) (r1 := r1) (r3 := r3) (a0 := G) (a1 := Hs) (a2 := As) (a3 := Dt) (z0 := ⟨none, 0, 0⟩) (z1 := ⟨none, 0, 0⟩) (z2 := ⟨none, 0, 0⟩) (z3 := ⟨none, 0, 0⟩) ?_
  exact hk G Hs As Dt ro (fun _ _ h => h) hr
end Go.Proofs.YtiaopgnnibidlaaDoor
