import Derived.Test.YtkokdeenniejjaaDoorPc
import Derived.Test.YtkokdeenniejjaaDoorEngL
namespace Go.Proofs.YtkokdeenniejjaaDoor
open Go.Eng
set_option maxRecDepth 20000
theorem rdm {h h2 : H} {a : Addr} {v : Value} (r : H.rd h a v) (hs : ∀ e ∈ h.own, e ∈ h2.own) (hr : ∀ a v, h.ro a = some v → h2.ro a = some v) : H.rd h2 a v := ⟨r.1, r.2.elim (fun ⟨e, h1, h2⟩ => .inl ⟨e, hs e h1, h2⟩) (fun h => .inr (hr _ _ h))⟩
structure OwPar (xs : List Ent) (ss : List SV) (ls : List (List Int)) : Prop where
  l1 : xs.length = ss.length
  l2 : ss.length = ls.length
  g : ∀ (j : Nat) e s l, xs[j]? = some e → ss[j]? = some s → ls[j]? = some l → OwnsSl 1 s e (ints l)
theorem OwPar.nil : OwPar [] [] [] := ⟨rfl, rfl, by simp⟩
theorem OwPar.app {xs : List Ent} {ss : List SV} {ls : List (List Int)} (h : OwPar xs ss ls) {s : SV} {l : List Int} {e : Ent} (hr : OwnsSl 1 s e (ints l)) : OwPar (xs ++ [e]) (ss ++ [s]) (ls ++ [l]) := by
  refine ⟨by simp [h.l1], by simp [h.l2], fun j e' s' l' a b c => ?_⟩
  have := h.l1
  have := h.l2
  rcases app_cases a with ⟨a1, a2⟩ | ⟨a1, rfl⟩ <;> rcases app_cases b with ⟨b1, b2⟩ | ⟨b1, rfl⟩ <;> rcases app_cases c with ⟨c1, c2⟩ | ⟨c1, rfl⟩
  · exact h.g j e' s' l' a2 b2 c2
  · omega
  · omega
  · omega
  · omega
  · omega
  · omega
  · exact hr
theorem OwPar.set {xs : List Ent} {ss : List SV} {ls : List (List Int)} (h : OwPar xs ss ls) {p : Nat} {s : SV} {l : List Int} {e : Ent} (hs : ss[p]? = some s) (hr : OwnsSl 1 s e (ints l)) : OwPar (xs.set p e) ss (ls.set p l) := by
  refine ⟨by simp [h.l1], by simp [h.l2], fun j e' s' l' a b c => ?_⟩
  rcases set_cases a with ⟨a1, rfl⟩ | ⟨a1, a2⟩ <;> rcases set_cases c with ⟨c1, rfl⟩ | ⟨c1, c2⟩
  · subst a1; rw [hs] at b; cases b; exact hr
  · exact absurd a1 c1
  · exact absurd c1 a1
  · exact h.g j e' s' l' a2 b c2
theorem OwPar.rd {xs : List Ent} {ss : List SV} {ls : List (List Int)} (h : OwPar xs ss ls) {hh : H} {s : SV} (hs : RdSl hh s (ss.map svV)) (he : ∀ e ∈ xs, ∀ s xs, OwnsSl 1 s e xs → RdSl hh s xs) : ∃ rc, RdRowsOf hh s rc ∧ rc.map Prod.snd = ls := by
  refine ⟨ss.zip ls, ⟨?_, fun r hr => ?_⟩, List.map_snd_zip (by have := h.l2; omega)⟩
  · have e : (ss.zip ls).map (fun r => Value.slice r.1.a r.1.len r.1.cap) = ss.map svV := by
      conv => rhs; rw [← List.map_fst_zip (l₁ := ss) (l₂ := ls) (by have := h.l2; omega)]
      rw [List.map_map]; rfl
    rw [e]; exact hs
  · obtain ⟨j, hj⟩ := List.mem_iff_getElem?.1 hr
    rw [List.getElem?_zip_eq_some] at hj
    have hlt := (List.getElem?_eq_some_iff.1 hj.1).1
    obtain ⟨e, hx⟩ : ∃ e, xs[j]? = some e := ⟨_, List.getElem?_eq_getElem (by have := h.l1; omega)⟩
    exact he _ (List.mem_of_getElem? hx) _ _ (h.g j _ _ _ hx hj.1 hj.2)
set_option maxRecDepth 20000 in
theorem grows_rows : Grows Tryd.prog 38 22 1 := ⟨rfl, rfl, by decide, by decide, ⟨_, rfl, rfl, ⟨rfl, trivial⟩⟩⟩
theorem allOne_svV (l : List SV) : allOne (l.map svV) := allOne_iff.2 fun v hv => by
  obtain ⟨s, _, rfl⟩ := List.mem_map.1 hv
  rfl
/-! ### the struct latchgarthref4.Mem, boxed -/
def mmC (a0 : SV) (a1 : SV) (a2 : SV) : List Value := [.slice a0.a a0.len a0.cap, .slice a1.a a1.len a1.cap, .slice a2.a a2.len a2.cap]
def mmE (r : Nat) (a0 : SV) (a1 : SV) (a2 : SV) : Ent := ⟨some r, mmC a0 a1 a2, 3⟩
theorem mm_one {a0 : SV} {a1 : SV} {a2 : SV} : allOne (mmC a0 a1 a2) := ⟨rfl, rfl, rfl, trivial⟩
theorem mm_get {h : H} {r : Nat} {a0 : SV} {a1 : SV} {a2 : SV} {K : SV → SV → SV → Prop} (he : mmE r a0 a1 a2 ∈ h.own) (hK : K a0 a1 a2) :
    ∃ x0 : SV, H.rd h (Addr.add (Addr.mk r 0 none) 0) (.slice x0.a x0.len x0.cap) ∧ ∃ x1 : SV, H.rd h (Addr.add (Addr.mk r 0 none) 1) (.slice x1.a x1.len x1.cap) ∧ ∃ x2 : SV, H.rd h (Addr.add (Addr.mk r 0 none) 2) (.slice x2.a x2.len x2.cap) ∧ K x0 x1 x2 :=
  rS _ he rfl rfl (rS _ he rfl rfl (rS _ he rfl rfl (hK)))
theorem mm_put {own : List Ent} {ro : Addr → Option Value} {r : Nat} {a0 : SV} {a1 : SV} {a2 : SV} {z0 : SV} {z1 : SV} {z2 : SV} {K : H → Prop} (A C : List Ent) (hown : own = A ++ mmE r z0 z1 z2 :: C) (hK : K ⟨A ++ mmE r a0 a1 a2 :: C, ro⟩) :
    (mmC a0 a1 a2).length = 3 ∧ (Program.underlying Tryd.prog 43).isSome = true ∧ H.wr ⟨own, ro⟩ (Addr.mk r 0 none) (mmC a0 a1 a2) K :=
  ⟨rfl, rfl, wro A (mmE r z0 z1 z2) C mm_one hown rfl (Nat.le_refl _) hK⟩
theorem mm_fin {own Y : List Ent} {ro : Addr → Option Value} {r1 r3 : Nat} {a0 : SV} {a1 : SV} {a2 : SV} {z0 : SV} {z1 : SV} {z2 : SV} {Q : SV → SV → SV → Value} {post : Value → H → Prop} (hp : post (Q a0 a1 a2) ⟨own, ro⟩) :
    ∃ x0 : SV, H.rd ⟨own ++ mmE r1 a0 a1 a2 :: mmE r3 z0 z1 z2 :: Y, ro⟩ (Addr.add (Addr.mk r1 0 none) 0) (.slice x0.a x0.len x0.cap) ∧ ∃ x1 : SV, H.rd ⟨own ++ mmE r1 a0 a1 a2 :: mmE r3 z0 z1 z2 :: Y, ro⟩ (Addr.add (Addr.mk r1 0 none) 1) (.slice x1.a x1.len x1.cap) ∧ ∃ x2 : SV, H.rd ⟨own ++ mmE r1 a0 a1 a2 :: mmE r3 z0 z1 z2 :: Y, ro⟩ (Addr.add (Addr.mk r1 0 none) 2) (.slice x2.a x2.len x2.cap) ∧ 
    (mmC x0 x1 x2).length = 3 ∧ (Program.underlying Tryd.prog 43).isSome = true ∧ H.wr ⟨own ++ mmE r1 a0 a1 a2 :: mmE r3 z0 z1 z2 :: Y, ro⟩ (Addr.mk r3 0 none) (mmC x0 x1 x2) fun h =>
    ∃ y0 : SV, H.rd h (Addr.add (Addr.mk r3 0 none) 0) (.slice y0.a y0.len y0.cap) ∧ ∃ y1 : SV, H.rd h (Addr.add (Addr.mk r3 0 none) 1) (.slice y1.a y1.len y1.cap) ∧ ∃ y2 : SV, H.rd h (Addr.add (Addr.mk r3 0 none) 2) (.slice y2.a y2.len y2.cap) ∧ VRet h (Q y0 y1 y2) post :=
  mm_get (a0 := a0) (a1 := a1) (a2 := a2) (by simp) (mm_put (z0 := z0) (z1 := z1) (z2 := z2) (own ++ [mmE r1 a0 a1 a2]) Y (by simp) (mm_get (a0 := a0) (a1 := a1) (a2 := a2) (by simp) ⟨⟨own, ro⟩, Gh.drop (by simp), hp⟩))
theorem mm_finY {own Y : List Ent} {ro : Addr → Option Value} {r1 r3 : Nat} {a0 : SV} {a1 : SV} {a2 : SV} {z0 : SV} {z1 : SV} {z2 : SV} {Q : SV → SV → SV → Value} {post : Value → H → Prop} (hp : VRet ⟨(own ++ [mmE r1 a0 a1 a2]) ++ mmE r3 a0 a1 a2 :: Y, ro⟩ (Q a0 a1 a2) post) :
    ∃ x0 : SV, H.rd ⟨own ++ mmE r1 a0 a1 a2 :: mmE r3 z0 z1 z2 :: Y, ro⟩ (Addr.add (Addr.mk r1 0 none) 0) (.slice x0.a x0.len x0.cap) ∧ ∃ x1 : SV, H.rd ⟨own ++ mmE r1 a0 a1 a2 :: mmE r3 z0 z1 z2 :: Y, ro⟩ (Addr.add (Addr.mk r1 0 none) 1) (.slice x1.a x1.len x1.cap) ∧ ∃ x2 : SV, H.rd ⟨own ++ mmE r1 a0 a1 a2 :: mmE r3 z0 z1 z2 :: Y, ro⟩ (Addr.add (Addr.mk r1 0 none) 2) (.slice x2.a x2.len x2.cap) ∧ 
    (mmC x0 x1 x2).length = 3 ∧ (Program.underlying Tryd.prog 43).isSome = true ∧ H.wr ⟨own ++ mmE r1 a0 a1 a2 :: mmE r3 z0 z1 z2 :: Y, ro⟩ (Addr.mk r3 0 none) (mmC x0 x1 x2) fun h =>
    ∃ y0 : SV, H.rd h (Addr.add (Addr.mk r3 0 none) 0) (.slice y0.a y0.len y0.cap) ∧ ∃ y1 : SV, H.rd h (Addr.add (Addr.mk r3 0 none) 1) (.slice y1.a y1.len y1.cap) ∧ ∃ y2 : SV, H.rd h (Addr.add (Addr.mk r3 0 none) 2) (.slice y2.a y2.len y2.cap) ∧ VRet h (Q y0 y1 y2) post :=
  mm_get (a0 := a0) (a1 := a1) (a2 := a2) (by simp) (mm_put (z0 := z0) (z1 := z1) (z2 := z2) (own ++ [mmE r1 a0 a1 a2]) Y (by simp) (mm_get (a0 := a0) (a1 := a1) (a2 := a2) (by simp) hp))
theorem mm_w {own C : List Ent} {ro : Addr → Option Value} {r1 : Nat} {a0 : SV} {a1 : SV} {a2 : SV} {j : Nat} {v : Value} {K : H → Prop} (b0 : SV) (b1 : SV) (b2 : SV) (h1 : v.oneCell' = true) (hj : 0 + j + 1 ≤ 3) (hs : spl (mmC a0 a1 a2) (0 + j) [v] = mmC b0 b1 b2)
    (hK : K ⟨own ++ mmE r1 b0 b1 b2 :: C, ro⟩) : H.wr ⟨own ++ mmE r1 a0 a1 a2 :: C, ro⟩ (Addr.add (Addr.mk r1 0 none) j) [v] K := by
  refine wF own (mmE r1 a0 a1 a2) C ⟨h1, trivial⟩ rfl rfl hj ?_
  show K ⟨own ++ ⟨some r1, spl (mmC a0 a1 a2) (0 + j) [v], 3⟩ :: C, ro⟩
  rw [hs]
  exact hK
theorem rm_congr {n : Nat} {f g : Nat → Int} (h : ∀ k, k < n → f k = g k) : rm n f = rm n g := List.map_congr_left fun k hk => h k (List.mem_range.1 hk)
theorem rm_rep (n : Nat) : rm n (fun _ => (0 : Int)) = List.replicate n 0 := by
  refine List.ext_getElem? fun k => ?_
  by_cases hk : k < n
  · rw [rm_get _ hk, List.getElem?_replicate, if_pos hk]
  · rw [List.getElem?_eq_none (by rw [rm_len]; omega), List.getElem?_eq_none (by simp; omega)]
/-- a number of a row -/
theorem rm_ati {n : Nat} {f : Nat → Int} {s : SV} {own : List Ent} {ro : Addr → Option Value} (r : RdSl ⟨[], ro⟩ s (ints (rm n f))) {k : Nat} (hk : k < n) {i : Int} (hi : i = (k : Int)) {K : Int → Prop} (hK : K (f k)) :
    ∃ b : Addr, s.a = some b ∧ 0 ≤ i ∧ i < ((s.len : Nat) : Int) ∧ ∃ x : Int, H.rd ⟨own, ro⟩ (Addr.add (Addr.add b (i.toNat * 1)) 0) (Value.int .i64 x) ∧ K x := by
  subst hi
  have hl := r.len
  rw [ints_length, rm_len] at hl
  refine RdSl.idx (h := ⟨own, ro⟩) r.ro (by omega) (by omega) (fun x hx => ?_)
  rw [Int.toNat_natCast, rm_get _ hk] at hx
  cases hx; exact hK
theorem rm_rd {n : Nat} {f : Nat → Int} {s : SV} {own : List Ent} {ro ro' : Addr → Option Value} (r : RdSl ⟨[], ro⟩ s (ints (rm n f))) (m : ∀ a v, ro a = some v → ro' a = some v) {b : Addr} (hb : s.a = some b) {k : Nat} (hk : k < n) {i : Int} (hi : i = (k : Int)) : H.rd ⟨own, ro'⟩ (Addr.add (Addr.add b (i.toNat * 1)) 0) (Value.int .i64 (f k)) := by
  subst hi
  rw [Int.toNat_natCast]
  exact (r.mono (h2 := ⟨own, ro'⟩) (by simp) m).rdi hb (rm_get _ hk)
theorem ref4_upd_c {n : Nat} {f : Nat → Int} {s : SV} {v i : Int} {own : List Ent} {ro : Addr → Option Value} {post : Value → H → Prop} (r : RdSl ⟨[], ro⟩ s (ints (rm n f))) (hn : n ≤ 1000000) {k : Nat} (hk : k < n) (hi : i = (k : Int))
    (hK : ∀ (s' : SV) (ro' : Addr → Option Value), (∀ a v, ro a = some v → ro' a = some v) → RdSl ⟨[], ro'⟩ s' (ints (rm n (updN f k v))) → post (.slice s'.a s'.len s'.cap) ⟨own, ro'⟩) :
    SemCall Tryd.prog 41 (List.toArray [.slice s.a s.len s.cap, .int .i64 i, .int .i64 v]) ⟨own, ro⟩ post := by
  subst hi
  have hl := r.len
  rw [ints_length, rm_len] at hl
  refine ref4_set_c r.ro (by omega) (by omega) (by omega) (fun s' ro' m h _ => hK s' ro' m ?_)
  rw [Int.toNat_natCast, rm_set] at h
  exact h
theorem mk1 {own : List Ent} {ro : Addr → Option Value} {N : Int} {K : Nat → H → Prop} (hw : Wf ⟨own, ro⟩) (h : ∀ r, Wf ⟨own ++ [⟨some r, ints (List.replicate N.toNat 0), N.toNat⟩], ro⟩ → K r ⟨own ++ [⟨some r, ints (List.replicate N.toNat 0), N.toNat⟩], ro⟩) :
    H.new ⟨own, ro⟩ (repl N.toNat [Value.int .i64 0]) K := by
  intro r f
  have e : (⟨some r, repl N.toNat [Value.int .i64 0], (repl N.toNat [Value.int .i64 0]).length⟩ : Ent) = ⟨some r, ints (List.replicate N.toNat 0), N.toNat⟩ := by rw [repl_ints, ints_length, List.length_replicate]
  show K r ⟨own ++ [⟨some r, repl N.toNat [Value.int .i64 0], (repl N.toNat [Value.int .i64 0]).length⟩], ro⟩
  rw [e]
  exact h r (hw.add f rfl)
theorem rlen {n : Nat} {f : Nat → Int} {s : SV} {h : H} (r : RdSl h s (ints (rm n f))) : s.len = n := by
  have := r.len; rwa [ints_length, rm_len] at this
theorem new2w {own : List Ent} {ro : Addr → Option Value} {c1 c2 : List Value} {n1 n2 : Nat} {K : Nat → Nat → H → Prop} (hw : Wf ⟨own, ro⟩) (h1 : c1.length = n1) (h2 : c2.length = n2) (h : ∀ r1 r3, Wf ⟨own ++ [⟨some r1, c1, n1⟩, ⟨some r3, c2, n2⟩], ro⟩ → K r1 r3 ⟨own ++ [⟨some r1, c1, n1⟩, ⟨some r3, c2, n2⟩], ro⟩) :
    H.new ⟨own, ro⟩ c1 fun r1 h2 => H.new h2 c2 fun r3 h4 => K r1 r3 h4 := by
  intro r1 f1 r3 f3
  subst h1 h2
  have hw1 := hw.add (e := ⟨some r1, c1, c1.length⟩) f1 rfl
  have hw3 := hw1.add (e := ⟨some r3, c2, c2.length⟩) f3 rfl
  have e : own ++ [⟨some r1, c1, c1.length⟩] ++ [⟨some r3, c2, c2.length⟩] = own ++ [⟨some r1, c1, c1.length⟩, ⟨some r3, c2, c2.length⟩] := by simp
  rw [e] at hw3
  have := h r1 r3 hw3
  rw [← e] at this
  exact this
/-! ### the document's memory -/
def pN (c : PCell) : Int := if c.f then c.x else -1
structure MmR (ro : Addr → Option Value) (n : Nat) (F : Nat → PCell) (Nw Su Nx : SV) : Prop where
  nw : RdSl ⟨[], ro⟩ Nw (ints (rm n fun k => (F k).a))
  su : RdSl ⟨[], ro⟩ Su (ints (rm n fun k => (F k).s))
  nx : RdSl ⟨[], ro⟩ Nx (ints (rm n fun k => pN (F k)))
  ok : ∀ k, k < n → 0 ≤ (F k).a ∧ 0 ≤ (F k).s ∧ ((F k).f = true → 0 ≤ (F k).x)
theorem MmR.up {ro ro' : Addr → Option Value} {n : Nat} {F : Nat → PCell} {Nw Su Nx : SV} (h : MmR ro n F Nw Su Nx) (m : ∀ a v, ro a = some v → ro' a = some v) : MmR ro' n F Nw Su Nx := ⟨h.nw.mono (by simp) m, h.su.mono (by simp) m, h.nx.mono (by simp) m, h.ok⟩
theorem mm_wA {own C : List Ent} {ro : Addr → Option Value} {r1 : Nat} {a0 a1 a2 : SV} {j : Nat} {v : Value} {K : H → Prop} (A : List Ent) (b0 b1 b2 : SV) (hown : own = A ++ mmE r1 a0 a1 a2 :: C) (h1 : v.oneCell' = true) (hj : 0 + j + 1 ≤ 3) (hs : spl (mmC a0 a1 a2) (0 + j) [v] = mmC b0 b1 b2)
    (hK : K ⟨A ++ mmE r1 b0 b1 b2 :: C, ro⟩) : H.wr ⟨own, ro⟩ (Addr.add (Addr.mk r1 0 none) j) [v] K := by
  subst hown
  exact mm_w b0 b1 b2 h1 hj hs hK
def mmQ (y0 y1 y2 : SV) : Value := .agg (List.toArray (mmC y0 y1 y2))
theorem upd_a {n : Nat} {F : Nat → PCell} {k : Nat} (c : PCell) {g : PCell → Int} {v : Int} (h : g c = v) : rm n (updN (fun j => g (F j)) k v) = rm n (fun j => g (updN F k c j)) := rm_congr fun j _ => by
  by_cases e : j = k
  · subst e; rw [updN_same, updN_same, h]
  · rw [updN_ne e, updN_ne e]
theorem upd_0 {n : Nat} {F : Nat → PCell} {k : Nat} (c : PCell) {g : PCell → Int} (h : g c = g (F k)) : rm n (fun j => g (F j)) = rm n (fun j => g (updN F k c j)) := rm_congr fun j _ => by
  by_cases e : j = k
  · subst e; rw [updN_same, h]
  · rw [updN_ne e]
theorem ref4_written_c {n : Nat} {F : Nat → PCell} {k : Nat} {v : Int} {Nw Su Nx : SV} {own : List Ent} {ro : Addr → Option Value} {post : Value → H → Prop} (hr : MmR ro n F Nw Su Nx) (hn : n ≤ 8) (hk : k < n) (hv : 0 ≤ v)
    (hp : ∀ Nw' ro', (∀ a v, ro a = some v → ro' a = some v) → MmR ro' n (updN F k { F k with a := v }) Nw' Su Nx → post (mmQ Nw' Su Nx) ⟨own, ro'⟩) :
    SemCall Tryd.prog 16 (List.toArray [.agg (List.toArray (mmC Nw Su Nx)), .int .i64 (k : Int), .int .i64 v]) ⟨own, ro⟩ post := by
  refine f16_call _ _ _ _ _ _ post ?_
  refine new2 (n1 := 3) (n2 := 3) rfl rfl (fun r1 r3 => ?_)
  have m1 : ∀ {x0 x1 x2 : SV} {Z : List Ent}, mmE r1 x0 x1 x2 ∈ own ++ mmE r1 x0 x1 x2 :: Z := by simp
  refine rS0 (mmE r1 Nw Su Nx) m1 rfl rfl (ref4_upd_c hr.nw (by omega) hk rfl (fun Nw' ro1 q1 h1 => ⟨Nw', rfl, mm_w Nw' Su Nx rfl (by decide) rfl ?_⟩))
  rw [upd_a { F k with a := v } rfl] at h1
  have hr' := hr.up q1
  refine mm_fin (own := own) (Y := []) (z0 := ⟨none, 0, 0⟩) (z1 := ⟨none, 0, 0⟩) (z2 := ⟨none, 0, 0⟩) (Q := mmQ) (hp Nw' ro1 q1 ⟨h1, ?_, ?_, fun j hj => ?_⟩)
  · rw [← upd_0 (g := PCell.s) { F k with a := v } rfl]; exact hr'.su
  · rw [← upd_0 (g := pN) { F k with a := v } rfl]; exact hr'.nx
  · by_cases e : j = k
    · subst e; rw [updN_same]; exact ⟨hv, (hr.ok j hj).2⟩
    · rw [updN_ne e]; exact hr.ok j hj
theorem ref4_flushed_c {n : Nat} {F : Nat → PCell} {k : Nat} {Nw Su Nx : SV} {own : List Ent} {ro : Addr → Option Value} {post : Value → H → Prop} (hr : MmR ro n F Nw Su Nx) (hn : n ≤ 8) (hk : k < n)
    (hp : ∀ Nx' ro', (∀ a v, ro a = some v → ro' a = some v) → MmR ro' n (updN F k { F k with x := (F k).a, f := true }) Nw Su Nx' → post (mmQ Nw Su Nx') ⟨own, ro'⟩) :
    SemCall Tryd.prog 18 (List.toArray [.agg (List.toArray (mmC Nw Su Nx)), .int .i64 (k : Int)]) ⟨own, ro⟩ post := by
  refine f18_call _ _ _ _ _ post ?_
  refine new2 (n1 := 3) (n2 := 3) rfl rfl (fun r1 r3 => ?_)
  have m1 : ∀ {x0 x1 x2 : SV} {Z : List Ent}, mmE r1 x0 x1 x2 ∈ own ++ mmE r1 x0 x1 x2 :: Z := by simp
  refine rS0 (mmE r1 Nw Su Nx) m1 rfl rfl (rS0 (mmE r1 Nw Su Nx) m1 rfl rfl (rm_ati hr.nw hk rfl (ref4_upd_c hr.nx (by omega) hk rfl (fun Nx' ro1 q1 h1 => ⟨Nx', rfl, mm_w Nw Su Nx' rfl (by decide) rfl ?_⟩))))
  rw [upd_a { F k with x := (F k).a, f := true } (by simp [pN])] at h1
  have hr' := hr.up q1
  refine mm_fin (own := own) (Y := []) (z0 := ⟨none, 0, 0⟩) (z1 := ⟨none, 0, 0⟩) (z2 := ⟨none, 0, 0⟩) (Q := mmQ) (hp Nx' ro1 q1 ⟨?_, ?_, h1, fun j hj => ?_⟩)
  · rw [← upd_0 (g := PCell.a) { F k with x := (F k).a, f := true } rfl]; exact hr'.nw
  · rw [← upd_0 (g := PCell.s) { F k with x := (F k).a, f := true } rfl]; exact hr'.su
  · by_cases e : j = k
    · subst e; rw [updN_same]; exact ⟨(hr.ok j hj).1, (hr.ok j hj).2.1, fun _ => (hr.ok j hj).1⟩
    · rw [updN_ne e]; exact hr.ok j hj
theorem ref4_fenced_c {n : Nat} {F : Nat → PCell} {Nw Su Nx : SV} {own : List Ent} {ro : Addr → Option Value} {post : Value → H → Prop} (hr : MmR ro n F Nw Su Nx) (hn : n ≤ 8)
    (hp : ∀ Su' Nx' ro', (∀ a v, ro a = some v → ro' a = some v) → MmR ro' n (fun k => pF (F k)) Nw Su' Nx' → post (mmQ Nw Su' Nx') ⟨own, ro'⟩) :
    SemCall Tryd.prog 24 (List.toArray [.agg (List.toArray (mmC Nw Su Nx))]) ⟨own, ro⟩ post := by
  refine f24_call _ _ _ _ post ?_
  refine new2 (n1 := 3) (n2 := 3) rfl rfl (fun r1 r3 => ?_)
  have m1 : ∀ {x0 x1 x2 : SV} {Z : List Ent}, mmE r1 x0 x1 x2 ∈ own ++ mmE r1 x0 x1 x2 :: Z := by simp
  have ln := rlen hr.nw
  have pu : ∀ k, k < n → ∀ j, j < n → pUp pF F (k + 1) j = updN (pUp pF F k) k (pF (F k)) j := fun k hk j hj => by
    by_cases e : j = k
    · subst e; rw [updN_same]; unfold pUp; rw [if_pos (by omega)]
    · rw [updN_ne e]; unfold pUp
      by_cases h : j < k
      · rw [if_pos h, if_pos (by omega)]
      · rw [if_neg h, if_neg (by omega)]
  refine ⟨fun h => ∃ Su' Nx' ro', h = ⟨own ++ [mmE r1 Nw Su' Nx', mmE r3 ⟨none, 0, 0⟩ ⟨none, 0, 0⟩ ⟨none, 0, 0⟩], ro'⟩ ∧ (∀ a v, ro a = some v → ro' a = some v) ∧ MmR ro' n (pUp pF F n) Nw Su' Nx',
    ⟨fun m i h => ∃ k : Nat, i = k ∧ k ≤ n ∧ m = n - k ∧ ∃ Su' Nx' ro', h = ⟨own ++ [mmE r1 Nw Su' Nx', mmE r3 ⟨none, 0, 0⟩ ⟨none, 0, 0⟩ ⟨none, 0, 0⟩], ro'⟩ ∧ (∀ a v, ro a = some v → ro' a = some v) ∧ MmR ro' n (pUp pF F k) Nw Su' Nx', ⟨n, gi ⟨0, rfl, Nat.zero_le _, rfl, Su, Nx, ro, rfl, fun _ _ h => h, ?_⟩⟩, ?_⟩, ?_⟩
  · have e : pUp pF F 0 = F := by funext j; unfold pUp; rw [if_neg (by omega)]
    rw [e]; exact hr
  · rintro m _ i _ ⟨k, rfl, hk, rfl, Su', Nx', ro', rfl, mo, hr'⟩
    refine rS0 (mmE r1 Nw Su' Nx') m1 rfl rfl (VIf_dec (fun hlt => ?_) (fun hge => ?_))
    rotate_left
    · obtain rfl : k = n := by omega
      exact gi ⟨Su', Nx', ro', rfl, mo, hr'⟩
    have hkn : k < n := by omega
    have ek : pUp pF F k k = F k := by unfold pUp; rw [if_neg (by omega)]
    have ok := hr.ok k hkn
    refine rS0 (mmE r1 Nw Su' Nx') m1 rfl rfl (rm_ati hr'.nx hkn rfl ?_)
    rw [ek]
    refine VIf_dec (fun hx => ?_) (fun hx => ?_)
    · have hf : (F k).f = true := by
        by_cases hf : (F k).f = true
        · exact hf
        · unfold pN at hx; rw [if_neg hf] at hx; omega
      have px : pN (F k) = (F k).x := by unfold pN; rw [if_pos hf]
      have pf : pF (F k) = { F k with s := (F k).x, f := false } := by unfold pF; rw [if_pos hf]
      refine rS0 (mmE r1 Nw Su' Nx') m1 rfl rfl (rS0 (mmE r1 Nw Su' Nx') m1 rfl rfl (rm_ati hr'.nx hkn rfl ?_))
      rw [ek, px]
      refine ref4_upd_c hr'.su (by omega) hkn rfl (fun Su2 ro2 q2 h2 => ⟨Su2, rfl, mm_w Nw Su2 Nx' rfl (by decide) rfl ?_⟩)
      refine rS0 (mmE r1 Nw Su2 Nx') m1 rfl rfl (ref4_upd_c (hr'.up q2).nx (by omega) hkn rfl (fun Nx2 ro3 q3 h3 => ⟨Nx2, rfl, mm_w Nw Su2 Nx2 rfl (by decide) rfl ?_⟩))
      refine ⟨⟨by omega, by omega⟩, n - (k + 1), by omega, gi ⟨k + 1, by omega, by omega, rfl, Su2, Nx2, ro3, rfl, fun a v h => q3 a v (q2 a v (mo a v h)), ?_⟩⟩
      have h4 := (hr'.up q2).up q3
      have e0 : ∀ g : PCell → Int, rm n (fun j => g (pUp pF F (k + 1) j)) = rm n (fun j => g (updN (pUp pF F k) k (pF (F k)) j)) := fun g => rm_congr fun j hj => by rw [pu k hkn j hj]
      refine ⟨?_, ?_, ?_, fun j hj => ?_⟩
      · rw [e0 PCell.a, ← upd_0 (g := PCell.a) (pF (F k)) (by rw [ek, pf])]; exact h4.nw
      · rw [e0 PCell.s, ← upd_a (g := PCell.s) (pF (F k)) (v := (F k).x) (by rw [pf])]; exact h2.mono (by simp) q3
      · rw [e0 pN, ← upd_a (g := pN) (pF (F k)) (v := -1) (by rw [pf]; rfl)]; exact h3
      · rw [pu k hkn j hj]
        by_cases e : j = k
        · subst e; rw [updN_same, pf]; exact ⟨ok.1, ok.2.2 hf, fun h => nomatch h⟩
        · rw [updN_ne e]; exact hr'.ok j hj
    · have hf : (F k).f = false := by
        by_cases hf : (F k).f = true
        · unfold pN at hx; rw [if_pos hf] at hx; have := ok.2.2 hf; omega
        · simpa using hf
      have pf : pF (F k) = F k := by unfold pF; rw [if_neg (by rw [hf]; decide)]
      have e0 : ∀ j, j < n → pUp pF F (k + 1) j = pUp pF F k j := fun j hj => by
        rw [pu k hkn j hj]
        by_cases e : j = k
        · subst e; rw [updN_same, pf, ek]
        · rw [updN_ne e]
      refine ⟨⟨by omega, by omega⟩, n - (k + 1), by omega, gi ⟨k + 1, by omega, by omega, rfl, Su', Nx', ro', rfl, mo, ?_, ?_, ?_, fun j hj => by rw [e0 j hj]; exact hr'.ok j hj⟩⟩
      · rw [rm_congr fun j hj => by rw [e0 j hj]]; exact hr'.nw
      · rw [rm_congr fun j hj => by rw [e0 j hj]]; exact hr'.su
      · rw [rm_congr fun j hj => by rw [e0 j hj]]; exact hr'.nx
  rintro _ _ ⟨Su', Nx', ro', rfl, mo, hr'⟩
  have e0 : ∀ j, j < n → pUp pF F n j = pF (F j) := fun j hj => by unfold pUp; rw [if_pos hj]
  refine mm_fin (own := own) (Y := []) (r1 := r1) (r3 := r3) (z0 := ⟨none, 0, 0⟩) (z1 := ⟨none, 0, 0⟩) (z2 := ⟨none, 0, 0⟩) (Q := mmQ) (hp Su' Nx' ro' mo ⟨?_, ?_, ?_, fun j hj => ?_⟩)
  · rw [show rm n (fun k => (pF (F k)).a) = rm n (fun k => (pUp pF F n k).a) from rm_congr fun j hj => by rw [e0 j hj]]; exact hr'.nw
  · rw [show rm n (fun k => (pF (F k)).s) = rm n (fun k => (pUp pF F n k).s) from rm_congr fun j hj => by rw [e0 j hj]]; exact hr'.su
  · rw [show rm n (fun k => pN (pF (F k))) = rm n (fun k => pN (pUp pF F n k)) from rm_congr fun j hj => by rw [e0 j hj]]; exact hr'.nx
  · rw [← e0 j hj]; exact hr'.ok j hj
end Go.Proofs.YtkokdeenniejjaaDoor
