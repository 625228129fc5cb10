import Derived.Test.YtkokdeenniejjaaDoorPa
namespace Go.Proofs.YtkokdeenniejjaaDoor
open Go.Eng
set_option maxRecDepth 20000
/-! ### what the memory's methods do -/
def pWrite (n : Nat) (F : Nat → PCell) (i v : Int) : (Nat → PCell) × Int :=
  if ¬ (0 ≤ i ∧ i ≤ (n : Int) - 1) ∨ ¬ (0 ≤ v ∧ v ≤ 1000) then (F, 1) else (updN F i.toNat { F i.toNat with a := v }, 0)
def pFlush (n : Nat) (F : Nat → PCell) (i : Int) : (Nat → PCell) × Int :=
  if ¬ (0 ≤ i ∧ i ≤ (n : Int) - 1) then (F, 1) else (updN F i.toNat { F i.toNat with x := (F i.toNat).a, f := true }, 0)
def pF (c : PCell) : PCell := if c.f then { c with s := c.x, f := false } else c
def pB (keep : Int) (k : Nat) : Bool := bitsV .and (Int.fdiv keep (2 ^ k)) 1 == 1
def pC (keep : Int) (k : Nat) (c : PCell) : PCell := ⟨if pB keep k then c.a else c.s, if pB keep k then c.a else c.s, 0, false⟩
def pCrash (n : Nat) (F : Nat → PCell) (keep : Int) : (Nat → PCell) × Int :=
  if ¬ (0 ≤ keep ∧ keep < 2 ^ n) then (F, 1) else (fun k => pC keep k (F k), 0)
def pUp (G : PCell → PCell) (F : Nat → PCell) (k : Nat) : Nat → PCell := fun j => if j < k then G (F j) else F j
theorem rmc {n : Nat} {F G : Nat → PCell} (e : ∀ k, k < n → F k = G k) : rm n F = rm n G := List.map_congr_left fun k hk => e k (List.mem_range.1 hk)
def pE (b c n : Nat) (F : Nat → PCell) : Ent := ⟨some b, (rm n F).flatMap pcV, c⟩
def pP (p b n : Nat) : Ent := ⟨some p, [.slice (some (Addr.mk b 0 none)) n n], 1⟩
theorem pw {p b c n : Nat} {F : Nat → PCell} {ro : Addr → Option Value} {k j : Nat} {vs : List Value} {K : H → Prop} (x' : PCell) (hk : k < n) (h1 : allOne vs) (hj : j + vs.length ≤ 4) (he : pcV x' = spl (pcV (F k)) j vs) (hK : K ⟨[pE b c n (updN F k x'), pP p b n], ro⟩) :
    H.wr ⟨[pE b c n F, pP p b n], ro⟩ (Addr.mk b (k * 4 + j) none) vs K := by
  refine wr_rows pcV_len [] (pE b c n F) [pP p b n] x' h1 rfl rfl rfl (rm_get F hk) rfl hj he ?_
  rw [rm_set]
  exact hK
theorem pr {p b c n : Nat} {F : Nat → PCell} {ro : Addr → Option Value} {k j : Nat} {v : Value} (hk : k < n) (hv : (pcV (F k))[j]? = some v) : H.rd ⟨[pE b c n F, pP p b n], ro⟩ (Addr.mk b (k * 4 + j) none) v :=
  rd_row pcV_len (pE b c n F) (.head _) rfl rfl (rm_get F hk) rfl hv
theorem prs {p b c n : Nat} {F : Nat → PCell} {ro : Addr → Option Value} : H.rd ⟨[pE b c n F, pP p b n], ro⟩ (Addr.mk p 0 none) (.slice (some (Addr.mk b 0 none)) n n) := rdo (pP p b n) (.tail _ (.head _)) rfl rfl
theorem pmem_new_c {n : Int} {own : List Ent} {ro : Addr → Option Value} {post : Value → H → Prop}
    (h1 : ¬ (1 ≤ n ∧ n ≤ 8) → post (.tuple (List.toArray [.pointer none, errV (eno 66 1)])) ⟨own, ro⟩)
    (h2 : ∀ p L, MemAt p n.toNat (fun _ => ⟨0, 0, 0, false⟩) L → 1 ≤ n → n ≤ 8 → post (.tuple (List.toArray [.pointer (some (Addr.mk p 0 none)), errV none])) ⟨own ++ L, ro⟩) : SemCall Tryd.prog 14 (List.toArray [.int .i64 n]) ⟨own, ro⟩ post := by
  refine f14_call n _ post (within_c ⟨_, rfl, VIf_not (fun h => ret (h1 h)) (fun h => ⟨by omega, Int.le_refl _, by omega, by omega, ?_⟩)⟩)
  intro r4 _ r6 _
  refine ret ?_
  have e : repl n.toNat [Value.int .i64 0, .int .i64 0, .int .i64 0, .bool false] = (rm n.toNat fun _ => (⟨0, 0, 0, false⟩ : PCell)).flatMap pcV := by
    rw [show [Value.int .i64 0, .int .i64 0, .int .i64 0, .bool false] = pcV ⟨0, 0, 0, false⟩ from rfl, repl_rows]
    congr 1
    exact (List.map_const' .. ▸ by rw [List.length_range] : (List.range n.toNat).map (fun _ => (⟨0, 0, 0, false⟩ : PCell)) = List.replicate n.toNat ⟨0, 0, 0, false⟩).symm
  have := h2 r6 [⟨some r4, repl n.toNat [Value.int .i64 0, .int .i64 0, .int .i64 0, .bool false], (repl n.toNat [Value.int .i64 0, .int .i64 0, .int .i64 0, .bool false]).length⟩, ⟨some r6, [.slice (some (Addr.mk r4 0 none)) n.toNat n.toNat], 1⟩] ⟨r4, _, by rw [e]⟩ h.1 h.2
  rw [show own ++ [⟨some r4, repl n.toNat [Value.int .i64 0, .int .i64 0, .int .i64 0, .bool false], (repl n.toNat [Value.int .i64 0, .int .i64 0, .int .i64 0, .bool false]).length⟩, (⟨some r6, [.slice (some (Addr.mk r4 0 none)) n.toNat n.toNat], 1⟩ : Ent)] = own ++ [⟨some r4, repl n.toNat [Value.int .i64 0, .int .i64 0, .int .i64 0, .bool false], (repl n.toNat [Value.int .i64 0, .int .i64 0, .int .i64 0, .bool false]).length⟩] ++ [⟨some r6, [.slice (some (Addr.mk r4 0 none)) n.toNat n.toNat], 1⟩] by simp] at this
  exact this
theorem pmem_is_c {p b c n : Nat} {F : Nat → PCell} {i : Int} {ro : Addr → Option Value} {post : Value → H → Prop} (hn : n ≤ 1000)
    (hk : post (.bool (decide (0 ≤ i ∧ i ≤ (n : Int) - 1))) ⟨[pE b c n F, pP p b n], ro⟩) : SemCall Tryd.prog 42 (List.toArray [.pointer (some (Addr.mk p 0 none)), .int .i64 i]) ⟨[pE b c n F, pP p b n], ro⟩ post := by
  refine f42_call _ _ _ post ?_
  simp only [f42_sem, add_mk', Option.some.injEq, exists_eq_left', Nat.zero_add, Nat.add_zero]
  exact ⟨⟨some (Addr.mk b 0 none), n, n⟩, prs, ⟨by simp only; omega, by simp only; omega⟩, within_c ⟨_, rfl, ret hk⟩⟩
theorem pmem_write_c {p n : Nat} {F : Nat → PCell} {i v : Int} {L own : List Ent} {ro : Addr → Option Value} {post : Value → H → Prop} (A C : List Ent) (hown : own = A ++ (L ++ C)) (hs : MemAt p n F L) (hn : n ≤ 1000)
    (hk : ∀ L', MemAt p n (pWrite n F i v).1 L' → post (errV (eno 66 (pWrite n F i v).2)) ⟨A ++ (L' ++ C), ro⟩) :
    SemCall Tryd.prog 17 (List.toArray [.pointer (some (Addr.mk p 0 none)), .int .i64 i, .int .i64 v]) ⟨own, ro⟩ post := by
  refine lift A C hown (Q := fun L' => MemAt p n (pWrite n F i v).1 L') ?_ hk
  clear hk hown post
  intro post hk
  obtain ⟨b, c, rfl⟩ := hs
  refine f17_call _ _ _ _ post ?_
  refine join_b (h := ⟨[pE b c n F, pP p b n], ro⟩) (decide (¬ (0 ≤ i ∧ i ≤ (n : Int) - 1) ∨ ¬ (0 ≤ v ∧ v ≤ 1000))) (pmem_is_c hn ⟨_, rfl, VIf_not (fun h => gi ⟨rfl, (decide_eq_true (.inl h)).symm⟩) (fun h => within_c ⟨_, rfl, gi ⟨rfl, ?_⟩⟩)⟩) (VIf_dec (fun h => ?_) (fun h => ?_))
  · by_cases hv : 0 ≤ v ∧ v ≤ 1000
    · rw [decide_eq_true hv, decide_eq_false (by omega)]; rfl
    · rw [decide_eq_false hv, decide_eq_true (.inr hv)]; rfl
  · rw [pWrite, if_pos h] at hk
    exact ret (hk _ ⟨b, c, rfl⟩)
  · rw [pWrite, if_neg h] at hk
    refine ⟨_, rfl, ⟨some (Addr.mk b 0 none), n, n⟩, by rw [add_mk', add_mk']; exact prs, Addr.mk b 0 none, rfl, by omega, by simp only; omega, ?_⟩
    rw [add_mk', add_mk', Nat.zero_add]
    exact pw { F i.toNat with a := v } (by omega) ⟨rfl, trivial⟩ (by simp) rfl (ret (hk _ ⟨b, c, rfl⟩))
theorem pmem_flush_c {p n : Nat} {F : Nat → PCell} {i : Int} {L own : List Ent} {ro : Addr → Option Value} {post : Value → H → Prop} (A C : List Ent) (hown : own = A ++ (L ++ C)) (hs : MemAt p n F L) (hn : n ≤ 1000)
    (hk : ∀ L', MemAt p n (pFlush n F i).1 L' → post (errV (eno 66 (pFlush n F i).2)) ⟨A ++ (L' ++ C), ro⟩) :
    SemCall Tryd.prog 19 (List.toArray [.pointer (some (Addr.mk p 0 none)), .int .i64 i]) ⟨own, ro⟩ post := by
  refine lift A C hown (Q := fun L' => MemAt p n (pFlush n F i).1 L') ?_ hk
  clear hk hown post
  intro post hk
  obtain ⟨b, c, rfl⟩ := hs
  refine f19_call _ _ _ post ?_
  refine pmem_is_c hn ⟨_, rfl, VIf_not (fun h => ?_) (fun h => ?_)⟩
  · rw [pFlush, if_pos h] at hk
    exact ret (hk _ ⟨b, c, rfl⟩)
  · rw [pFlush, if_neg (not_not_intro h)] at hk
    refine ⟨_, rfl, ⟨some (Addr.mk b 0 none), n, n⟩, by rw [add_mk', add_mk']; exact prs, Addr.mk b 0 none, rfl, by omega, by simp only; omega, ?_⟩
    simp only [add_mk', Option.some.injEq, exists_eq_left', Nat.zero_add, Nat.add_zero]
    refine ⟨(F i.toNat).a, pr (j := 0) (by omega) rfl, ?_⟩
    refine pw (j := 2) { F i.toNat with x := (F i.toNat).a } (by omega) ⟨rfl, trivial⟩ (by simp) rfl ?_
    refine pw (j := 3) { F i.toNat with x := (F i.toNat).a, f := true } (by omega) ⟨rfl, trivial⟩ (by simp) (by rw [updN_same]; rfl) (ret (hk _ ⟨b, c, ?_⟩))
    have : rm n (updN (updN F i.toNat { F i.toNat with x := (F i.toNat).a }) i.toNat { F i.toNat with x := (F i.toNat).a, f := true }) = rm n (updN F i.toNat { F i.toNat with x := (F i.toNat).a, f := true }) := rmc fun k _ => by
      by_cases e : k = i.toNat
      · rw [e, updN_same, updN_same]
      · rw [updN_ne e, updN_ne e, updN_ne e]
    unfold pE
    rw [this]
    rfl
theorem pmem_read_c {p n : Nat} {F : Nat → PCell} {i : Int} {L own : List Ent} {ro : Addr → Option Value} {post : Value → H → Prop} (A C : List Ent) (hown : own = A ++ (L ++ C)) (hs : MemAt p n F L) (hn : n ≤ 1000)
    (hk : post (.int .i64 (if 0 ≤ i ∧ i ≤ (n : Int) - 1 then (F i.toNat).a else -1)) ⟨own, ro⟩) :
    SemCall Tryd.prog 26 (List.toArray [.pointer (some (Addr.mk p 0 none)), .int .i64 i]) ⟨own, ro⟩ post := by
  subst hown
  refine lift A C rfl (Q := fun L' => L' = L) (v := .int .i64 (if 0 ≤ i ∧ i ≤ (n : Int) - 1 then (F i.toNat).a else -1)) ?_ (fun L' h => by subst h; exact hk)
  clear hk post
  intro post hk
  obtain ⟨b, c, rfl⟩ := hs
  refine f26_call _ _ _ post ?_
  refine pmem_is_c hn ⟨_, rfl, VIf_not (fun h => ?_) (fun h => ?_)⟩
  · rw [if_neg h] at hk
    exact ret (hk _ rfl)
  · rw [if_pos h] at hk
    refine ⟨_, rfl, ⟨some (Addr.mk b 0 none), n, n⟩, by rw [add_mk', add_mk']; exact prs, Addr.mk b 0 none, rfl, by omega, by simp only; omega, (F i.toNat).a, ?_, ret (hk _ rfl)⟩
    rw [add_mk', add_mk', add_mk', Nat.zero_add, Nat.add_zero]
    exact pr (j := 0) (by omega) rfl
end Go.Proofs.YtkokdeenniejjaaDoor
