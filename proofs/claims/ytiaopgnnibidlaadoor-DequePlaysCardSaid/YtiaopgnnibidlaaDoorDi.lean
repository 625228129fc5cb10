import Derived.Test.YtiaopgnnibidlaaDoorC
import Derived.Test.YtiaopgnnibidlaaDoorEngK
namespace Go.Proofs.YtiaopgnnibidlaaDoor
open Go.Eng
set_option maxRecDepth 20000
/-! ### a table -/
def rm {α : Type} (n : Nat) (f : Nat → α) : List α := (List.range n).map f
theorem rm_len {α : Type} (n : Nat) (f : Nat → α) : (rm n f).length = n := by simp [rm]
theorem rm_get {α : Type} {n k : Nat} (f : Nat → α) (h : k < n) : (rm n f)[k]? = some (f k) := by simp [rm, h]
theorem rm_succ {α : Type} (n : Nat) (f : Nat → α) : rm (n + 1) f = rm n f ++ [f n] := by simp [rm, List.range_succ]
def updN {α : Type} (f : Nat → α) (q : Nat) (v : α) : Nat → α := fun p => if p = q then v else f p
theorem updN_same {α : Type} (f : Nat → α) (q : Nat) (v : α) : updN f q v q = v := if_pos rfl
theorem updN_ne {α : Type} {f : Nat → α} {q p : Nat} {v : α} (h : p ≠ q) : updN f q v p = f p := if_neg h
theorem rm_set {α : Type} (n k : Nat) (f : Nat → α) (v : α) : (rm n f).set k v = rm n (updN f k v) := by
  refine List.ext_getElem? fun i => ?_
  by_cases hi : i < n
  · rw [rm_get _ hi]
    by_cases hk : k = i
    · subst hk; rw [List.getElem?_set_self (by rw [rm_len]; exact hi), updN_same]
    · rw [List.getElem?_set_ne hk, rm_get _ hi, updN_ne (Ne.symm hk)]
  · rw [List.getElem?_eq_none (by simp [rm_len]; omega), List.getElem?_eq_none (by simp [rm_len]; omega)]
structure TS where
  n : Nat
  g : Nat → Int
  w : Nat → Nat
  a : Nat → Nat
  d : Nat → Bool
def fkV (x : Nat × Nat × Bool) : List Value := [.int .i64 (x.1 : Int), .int .i64 (x.2.1 : Int), .bool x.2.2]
def TS.forks (t : TS) : List (Nat × Nat × Bool) := rm t.n fun k => (t.w k, t.a k, t.d k)
def tabE (p g n : Nat) (gs : List Int) (c c1 : Nat) (sf : SV) (ef : Ent) : List Ent := [⟨some g, ints gs, c1⟩, ⟨some p, [.slice (some (Addr.mk g 0 none)) n n, .slice sf.a sf.len sf.cap], c⟩, ef]
def TabAt (p : Nat) (t : TS) (L : List Ent) : Prop := 3 ≤ t.n ∧ t.n ≤ 6 ∧ ∃ g c c1 sf ef, L = tabE p g t.n (rm t.n t.g) c c1 sf ef ∧ OwnsSl 3 sf ef (t.forks.flatMap fkV)
def prv (n i : Nat) : Nat := (i + n - 1) % n
def nxt (n i : Nat) : Nat := (i + 1) % n
theorem fkV_len (x : Nat × Nat × Bool) : (fkV x).length = 3 := rfl
theorem prv_lt {n i : Nat} (h : 3 ≤ n) : prv n i < n := Nat.mod_lt _ (by omega)
theorem nxt_lt {n i : Nat} (h : 3 ≤ n) : nxt n i < n := Nat.mod_lt _ (by omega)
/-- whose table is read -/
theorem tab_is_c {p : Nat} {n : Nat} {g : Nat} {sf : SV} {c : Nat} {q : Int} {own : List Ent} {ro : Addr → Option Value} {post : Value → H → Prop} (h3 : 3 ≤ n) (h6 : n ≤ 6) (hm : ⟨some p, [.slice (some (Addr.mk g 0 none)) n n, .slice sf.a sf.len sf.cap], c⟩ ∈ own)
    (hk : post (.bool (decide (0 ≤ q ∧ q ≤ (n : Int) - 1))) ⟨own, ro⟩) : SemCall Tryd.prog 29 (List.toArray [.pointer (some (Addr.mk p 0 none)), .int .i64 q]) ⟨own, ro⟩ post := by
  refine f29_call _ _ _ post ?_
  refine ⟨_, rfl, ⟨some (Addr.mk g 0 none), n, n⟩, ?_, ⟨by simp; omega, by simp; omega⟩, within_c ⟨_, rfl, ret hk⟩⟩
  rw [add_mk', add_mk']
  exact rdo _ hm rfl rfl
theorem tab_guest_c {p : Nat} {t : TS} {q : Int} {L own : List Ent} {ro : Addr → Option Value} {post : Value → H → Prop} (hs : TabAt p t L) (hL : ∀ e ∈ L, e ∈ own)
    (hk : post (.int .i64 (if 0 ≤ q ∧ q ≤ (t.n : Int) - 1 then t.g q.toNat else -1)) ⟨own, ro⟩) : SemCall Tryd.prog 15 (List.toArray [.pointer (some (Addr.mk p 0 none)), .int .i64 q]) ⟨own, ro⟩ post := by
  obtain ⟨h3, h6, g, c, c1, sf, ef, rfl, ho⟩ := hs
  refine f15_call _ _ _ post ?_
  refine tab_is_c h3 h6 (hL _ (.tail _ (.head _))) ⟨_, rfl, VIf_nb (fun hx => ?_) (fun hx => ?_)⟩
  · rw [if_neg (of_decide_eq_false hx)] at hk; exact ret hk
  · have hx := of_decide_eq_true hx
    rw [if_pos hx] at hk
    refine ⟨_, rfl, ⟨some (Addr.mk g 0 none), t.n, t.n⟩, ?_, ?_⟩
    · rw [add_mk', add_mk']; exact rdo _ (hL _ (.tail _ (.head _))) rfl rfl
    refine ⟨_, rfl, hx.1, by dsimp only; omega, t.g q.toNat, ?_, ret hk⟩
    rw [add_mk', add_mk', show 0 + q.toNat * 1 + 0 = q.toNat by omega]
    exact rd_ints _ (hL _ (.head _)) rfl rfl (rm_get _ (by omega))
def tRest (t : TS) (q : Int) : TS × Int := if ¬ (0 ≤ q ∧ q ≤ (t.n : Int) - 1) then (t, 1) else if t.g q.toNat ≠ 2 then (t, 7) else ({ t with g := updN t.g q.toNat 0 }, 0)
def tHunger (t : TS) (q : Int) : TS × Int := if ¬ (0 ≤ q ∧ q ≤ (t.n : Int) - 1) then (t, 1) else if t.g q.toNat ≠ 0 then (t, 7) else ({ t with g := updN t.g q.toNat 1 }, 0)
theorem tab_rest_c {p : Nat} {t : TS} {q : Int} {L own : List Ent} {ro : Addr → Option Value} {post : Value → H → Prop} (A C : List Ent) (hown : own = A ++ (L ++ C)) (hs : TabAt p t L)
    (hk : ∀ L', TabAt p (tRest t q).1 L' → post (errV (eno 61 (tRest t q).2)) ⟨A ++ (L' ++ C), ro⟩) : SemCall Tryd.prog 10 (List.toArray [.pointer (some (Addr.mk p 0 none)), .int .i64 q]) ⟨own, ro⟩ post := by
  refine lift A C hown (Q := fun L' => TabAt p (tRest t q).1 L') ?_ hk
  clear hk hown post
  intro post hk
  obtain ⟨h3, h6, g, c, c1, sf, ef, rfl, ho⟩ := hs
  refine f10_call _ _ _ post ?_
  have rT : ∀ {K : SV → Prop}, K ⟨some (Addr.mk g 0 none), t.n, t.n⟩ → ∃ x : SV, H.rd ⟨tabE p g t.n (rm t.n t.g) c c1 sf ef, ro⟩ (Addr.add (Addr.add (Addr.mk p 0 none) 0) 0) (.slice x.a x.len x.cap) ∧ K x := fun hK => by
    refine ⟨_, ?_, hK⟩
    rw [add_mk', add_mk']; exact rdo _ (.tail _ (.head _)) rfl rfl
  refine tab_is_c h3 h6 (.tail _ (.head _)) ⟨_, rfl, VIf_nb (fun hx => ?_) (fun hx => ?_)⟩
  · have hx := of_decide_eq_false hx
    rw [tRest, if_pos hx] at hk
    exact ret (hk _ ⟨h3, h6, g, c, c1, sf, ef, rfl, ho⟩)
  · have hx := of_decide_eq_true hx
    rw [tRest, if_neg (not_not_intro hx)] at hk
    refine ⟨_, rfl, rT ⟨_, rfl, hx.1, by dsimp only; omega, t.g q.toNat, ?_, VIf_ne (fun h2 => ?_) (fun h2 => ?_)⟩⟩
    · rw [add_mk', add_mk', show 0 + q.toNat * 1 + 0 = q.toNat by omega]
      exact rd_ints _ (.head _) rfl rfl (rm_get _ (by omega))
    · rw [if_pos h2] at hk
      exact ret (hk _ ⟨h3, h6, g, c, c1, sf, ef, rfl, ho⟩)
    · rw [if_neg (not_not_intro h2)] at hk
      refine ⟨_, rfl, rT ⟨_, rfl, hx.1, by dsimp only; omega, ?_⟩⟩
      rw [add_mk', show 0 + q.toNat * 1 = q.toNat by omega]
      refine wr_ints [] _ _ rfl rfl rfl (by rw [rm_len]; omega) (ret ?_)
      rw [rm_set]
      exact hk _ ⟨h3, h6, g, c, c1, sf, ef, rfl, ho⟩
theorem tab_hunger_c {p : Nat} {t : TS} {q : Int} {L own : List Ent} {ro : Addr → Option Value} {post : Value → H → Prop} (A C : List Ent) (hown : own = A ++ (L ++ C)) (hs : TabAt p t L)
    (hk : ∀ L', TabAt p (tHunger t q).1 L' → post (errV (eno 61 (tHunger t q).2)) ⟨A ++ (L' ++ C), ro⟩) : SemCall Tryd.prog 9 (List.toArray [.pointer (some (Addr.mk p 0 none)), .int .i64 q]) ⟨own, ro⟩ post := by
  refine lift A C hown (Q := fun L' => TabAt p (tHunger t q).1 L') ?_ hk
  clear hk hown post
  intro post hk
  obtain ⟨h3, h6, g, c, c1, sf, ef, rfl, ho⟩ := hs
  refine f9_call _ _ _ post ?_
  have rT : ∀ {K : SV → Prop}, K ⟨some (Addr.mk g 0 none), t.n, t.n⟩ → ∃ x : SV, H.rd ⟨tabE p g t.n (rm t.n t.g) c c1 sf ef, ro⟩ (Addr.add (Addr.add (Addr.mk p 0 none) 0) 0) (.slice x.a x.len x.cap) ∧ K x := fun hK => by
    refine ⟨_, ?_, hK⟩
    rw [add_mk', add_mk']; exact rdo _ (.tail _ (.head _)) rfl rfl
  refine tab_is_c h3 h6 (.tail _ (.head _)) ⟨_, rfl, VIf_nb (fun hx => ?_) (fun hx => ?_)⟩
  · have hx := of_decide_eq_false hx
    rw [tHunger, if_pos hx] at hk
    exact ret (hk _ ⟨h3, h6, g, c, c1, sf, ef, rfl, ho⟩)
  · have hx := of_decide_eq_true hx
    rw [tHunger, if_neg (not_not_intro hx)] at hk
    refine ⟨_, rfl, rT ⟨_, rfl, hx.1, by dsimp only; omega, t.g q.toNat, ?_, VIf_ne (fun h2 => ?_) (fun h2 => ?_)⟩⟩
    · rw [add_mk', add_mk', show 0 + q.toNat * 1 + 0 = q.toNat by omega]
      exact rd_ints _ (.head _) rfl rfl (rm_get _ (by omega))
    · rw [if_pos h2] at hk
      exact ret (hk _ ⟨h3, h6, g, c, c1, sf, ef, rfl, ho⟩)
    · rw [if_neg (not_not_intro h2)] at hk
      refine ⟨_, rfl, rT ⟨_, rfl, hx.1, by dsimp only; omega, ?_⟩⟩
      rw [add_mk', show 0 + q.toNat * 1 = q.toNat by omega]
      refine wr_ints [] _ _ rfl rfl rfl (by rw [rm_len]; omega) (ret ?_)
      rw [rm_set]
      exact hk _ ⟨h3, h6, g, c, c1, sf, ef, rfl, ho⟩
theorem tab_other_c {p n g i s : Nat} {sf : SV} {c : Nat} {own : List Ent} {ro : Addr → Option Value} {post : Value → H → Prop} (h3 : 3 ≤ n) (h6 : n ≤ 6) (hi : i < n) (hs : s ≤ 1) (hm : ⟨some p, [.slice (some (Addr.mk g 0 none)) n n, .slice sf.a sf.len sf.cap], c⟩ ∈ own)
    (hk : post (.int .i64 (((i + n - 1 + 2 * s) % n : Nat) : Int)) ⟨own, ro⟩) : SemCall Tryd.prog 32 (List.toArray [.pointer (some (Addr.mk p 0 none)), .int .i64 (i : Int), .int .i64 (s : Int)]) ⟨own, ro⟩ post := by
  refine f32_call _ _ _ _ post ?_
  refine ⟨_, rfl, ⟨some (Addr.mk g 0 none), n, n⟩, ?_, ?_⟩
  · rw [add_mk', add_mk']; exact rdo _ hm rfl rfl
  dsimp only
  refine ⟨⟨by omega, by omega⟩, ⟨by omega, by omega⟩, ⟨by omega, by omega⟩, ⟨by omega, by omega⟩, by omega, ret ?_⟩
  rw [show (i : Int) + (n : Int) - 1 + 2 * (s : Int) = ((i + n - 1 + 2 * s : Nat) : Int) by omega]
  exact hk
theorem tab_sides_c {p n g i : Nat} {sf : SV} {c : Nat} {b : Addr} {own : List Ent} {ro : Addr → Option Value} {post : Value → H → Prop} (h3 : 3 ≤ n) (h6 : n ≤ 6) (hi : i < n) (hm : ⟨some p, [.slice (some (Addr.mk g 0 none)) n n, .slice sf.a sf.len sf.cap], c⟩ ∈ own) (hb : sf.a = some b) (hl : sf.len = n)
    (hk : post (.agg (List.toArray [.pointer (some (Addr.add b (prv n i * 3))), .pointer (some (Addr.add b (i * 3)))])) ⟨own, ro⟩) : SemCall Tryd.prog 31 (List.toArray [.pointer (some (Addr.mk p 0 none)), .int .i64 (i : Int)]) ⟨own, ro⟩ post := by
  refine f31_call _ _ _ post ?_
  intro r _
  have rG : ∀ {X : List Ent} {K : SV → Prop}, K ⟨some (Addr.mk g 0 none), n, n⟩ → ∃ x : SV, H.rd ⟨own ++ X, ro⟩ (Addr.add (Addr.add (Addr.mk p 0 none) 0) 0) (.slice x.a x.len x.cap) ∧ K x := fun hK => by
    refine ⟨_, ?_, hK⟩
    rw [add_mk', add_mk']; exact rdo _ (List.mem_append_left _ hm) rfl rfl
  have rF : ∀ {X : List Ent} {K : SV → Prop}, K sf → ∃ x : SV, H.rd ⟨own ++ X, ro⟩ (Addr.add (Addr.add (Addr.mk p 0 none) 1) 0) (.slice x.a x.len x.cap) ∧ K x := fun hK => by
    refine ⟨_, ?_, hK⟩
    rw [add_mk', add_mk']; exact rdo _ (List.mem_append_left _ hm) rfl rfl
  have e1 : Int.tmod ((i : Int) + (n : Int) - 1) (n : Int) = ((prv n i : Nat) : Int) := by
    rw [show (i : Int) + (n : Int) - 1 = ((i + n - 1 : Nat) : Int) by omega]; rfl
  have hp := prv_lt (i := i) h3
  refine ⟨_, rfl, rG ⟨_, rfl, rF ?_⟩⟩
  dsimp only
  rw [e1]
  refine ⟨⟨by omega, by omega⟩, ⟨by omega, by omega⟩, by omega, b, hb, by omega, by omega, _, rfl, rF ⟨b, hb, by omega, by omega, rfl, rfl, ?_⟩⟩
  simp only [Int.toNat_natCast]
  refine wro own ⟨some r, [.pointer none, .pointer none], 2⟩ [] ⟨rfl, rfl, trivial⟩ rfl rfl (by simp) ?_
  refine ⟨_, ?_, _, ?_, ⟨own, ro⟩, Gh.drop (by simp), hk⟩
  · rw [add_mk']; exact rdo ⟨some r, [.pointer (some (Addr.add b (prv n i * 3))), .pointer (some (Addr.add b (i * 3)))], 2⟩ (by simp [spl]) rfl rfl
  · rw [add_mk']; exact rdo ⟨some r, [.pointer (some (Addr.add b (prv n i * 3))), .pointer (some (Addr.add b (i * 3)))], 2⟩ (by simp [spl]) rfl rfl
end Go.Proofs.YtiaopgnnibidlaaDoor
