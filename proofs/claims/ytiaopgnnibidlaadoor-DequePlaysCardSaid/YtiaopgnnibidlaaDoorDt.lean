import Derived.Test.YtiaopgnnibidlaaDoorU
import Derived.Test.YtiaopgnnibidlaaDoorC
import Derived.Test.YtiaopgnnibidlaaDoorEngK
import Derived.Test.YtiaopgnnibidlaaDoorDi
namespace Go.Proofs.YtiaopgnnibidlaaDoor
open Go.Eng
set_option maxRecDepth 20000
/-! ### hands, and words that are changed if they are as told -/
theorem within_i {n lo hi : Int} {h : H} {post : Value → H → Prop} (h1 : ¬ (lo ≤ n ∧ n ≤ hi) → post (.bool false) h) (h2 : lo ≤ n → n ≤ hi → post (.bool true) h) : SemCall Tryd.prog 27 (List.toArray [.int .i64 n, .int .i64 lo, .int .i64 hi]) h post := by
  refine within_c ?_
  by_cases h : lo ≤ n ∧ n ≤ hi
  · rw [decide_eq_true h]; exact h2 h.1 h.2
  · rw [decide_eq_false h]; exact h1 h
theorem in_i {n lo hi : Int} {h : H} {post : Value → H → Prop} (h1 : ¬ (lo ≤ n ∧ n ≤ hi) → post (.bool false) h) (h2 : lo ≤ n → n ≤ hi → post (.bool true) h) : SemCall Tryd.prog 8 (List.toArray [.int .i64 n, .int .i64 lo, .int .i64 hi]) h post := by
  refine in_c ?_
  by_cases h : lo ≤ n ∧ n ≤ hi
  · rw [decide_eq_true h]; exact h2 h.1 h.2
  · rw [decide_eq_false h]; exact h1 h
theorem hands_c {n : Int} {h : H} {post : Value → H → Prop} (h1 : ¬ (1 ≤ n ∧ n ≤ 4) → post (errV (eno 61 1)) h) (h2 : 1 ≤ n → n ≤ 4 → post (errV none) h) : SemCall Tryd.prog 33 (List.toArray [.int .i64 n]) h post := by
  refine f33_call n h post (within_i (fun hc => ?_) (fun a b => ?_))
  · exact ⟨_, rfl, VIf_nb (fun _ => ret (h1 hc)) (nomatch ·)⟩
  · exact ⟨_, rfl, VIf_nb (nomatch ·) (fun _ => ret (h2 a b))⟩
theorem cas_c {b o : Nat} {x old new : Int} {own : List Ent} {ro : Addr → Option Value} {post : Value → H → Prop} (A : List Ent) (e : Ent) (C : List Ent) (hown : own = A ++ e :: C) (hid : e.id = some b) (hx : e.cells[o]? = some (.int .i64 x))
    (h1 : x = old → post (.bool true) ⟨A ++ ⟨some b, spl e.cells o [.int .i64 new], e.cap⟩ :: C, ro⟩) (h2 : x ≠ old → post (.bool false) ⟨own, ro⟩) :
    SemCall Tryd.prog 39 (List.toArray [.pointer (some (Addr.mk b o none)), .int .i64 old, .int .i64 new]) ⟨own, ro⟩ post := by
  refine f39_call _ _ _ _ post ?_
  simp only [f39_sem, add_mk', Option.some.injEq, exists_eq_left', Nat.add_zero]
  refine ⟨x, rdo e (by subst hown; simp) hid hx, VIf_ne (fun h => ret (h2 h)) (fun h => ?_)⟩
  have := (List.getElem?_eq_some_iff.1 hx).1
  exact wro A e C ⟨rfl, trivial⟩ hown hid (by simp; omega) (ret (by rw [hid]; exact h1 h))
/-! ### a deque -/
theorem gI_rm {n k : Nat} {f : Nat → Int} (h : k < n) : gI (rm n f) k = f k := by unfold gI; rw [rm_get _ h]; rfl
theorem rm_spl {n o : Nat} {f : Nat → Int} {vs : List Int} (h : o + vs.length ≤ n) : splI (rm n f) o vs = rm n fun k => if o ≤ k ∧ k < o + vs.length then gI vs (k - o) else f k := by
  refine List.ext_getElem? fun k => ?_
  have hl : (splI (rm n f) o vs).length = n := by rw [splI_length (by rw [rm_len]; exact h), rm_len]
  by_cases hk : k < n
  · rw [rm_get _ hk]
    have e := gI_spl (m := rm n f) (vs := vs) (o := o) (by rw [rm_len]; exact h) k
    rw [gI_rm hk] at e
    unfold gI at e
    rw [List.getElem?_eq_getElem (by omega)] at e ⊢
    exact congrArg some e
  · rw [List.getElem?_eq_none (by omega), List.getElem?_eq_none (by rw [rm_len]; omega)]
def dqE (p bh n : Nat) (f h : Nat → Int) (c c1 : Nat) : List Ent := [⟨some bh, ints (rm (n * 4) h), c1⟩, ⟨some p, ints (rm 10 f) ++ [.slice (some (Addr.mk bh 0 none)) n n], c⟩]
def DqAt (p n : Nat) (f h : Nat → Int) (L : List Ent) : Prop := 1 ≤ n ∧ n ≤ 4 ∧ ∃ bh c c1, L = dqE p bh n f h c c1
def dDone (h : Nat → Int) (q : Nat) : Nat → Int := fun k => if q * 4 ≤ k ∧ k < q * 4 + 4 then 0 else h k
/-- one line of a hand that does something: what is left, whether it is done, what it tells -/
def dStep (f h : Nat → Int) (q : Nat) : (Nat → Int) × (Nat → Int) × Bool × Int :=
  let a := h (q * 4 + 0)
  let nx := fun (f h : Nat → Int) (v : Int) => (f, updN h (q * 4 + 0) v, false, (0 : Int))
  let dn := fun (f h : Nat → Int) (v : Int) => (f, dDone h q, true, v)
  if a = 1 then (if f 9 - f 8 ≥ 8 then dn f h (-2) else nx f h (a + 1))
  else if a = 2 then nx (updN f ((f 9).toNat % 8) (h (q * 4 + 1))) h (a + 1)
  else if a = 3 then dn (updN f 9 (f 9 + 1)) h (-1)
  else if a = 4 then nx (updN f 9 (f 9 - 1)) (updN h (q * 4 + 3) (f 9 - 1)) (a + 1)
  else if a = 5 then (if h (q * 4 + 3) > f 8 then dn f (updN h (q * 4 + 2) (f 8)) (f ((h (q * 4 + 3)).toNat % 8)) else if h (q * 4 + 3) = f 8 then nx f (updN h (q * 4 + 2) (f 8)) 7 else nx f (updN h (q * 4 + 2) (f 8)) (a + 1))
  else if a = 6 then dn (updN f 9 (h (q * 4 + 2))) h (-1)
  else if a = 7 then (if f 8 = h (q * 4 + 2) then nx (updN f 8 (h (q * 4 + 2) + 1)) (updN (updN h (q * 4 + 1) (-1)) (q * 4 + 1) (f ((h (q * 4 + 3)).toNat % 8))) (a + 1) else nx f (updN h (q * 4 + 1) (-1)) (a + 1))
  else if a = 8 then dn (updN f 9 (h (q * 4 + 2) + 1)) h (h (q * 4 + 1))
  else if a = 9 then nx f (updN h (q * 4 + 2) (f 8)) (a + 1)
  else if a = 10 then (if f 9 ≤ h (q * 4 + 2) then dn f h (-1) else nx f h (a + 1))
  else if a = 11 then nx f (updN h (q * 4 + 1) (f ((h (q * 4 + 2)).toNat % 8))) (a + 1)
  else if a = 12 then (if f 8 = h (q * 4 + 2) then dn (updN f 8 (h (q * 4 + 2) + 1)) h (h (q * 4 + 1)) else dn f h (-2))
  else nx f h (a + 1)
/-- what a line needs -/
structure DOk (f h : Nat → Int) (q : Nat) : Prop where
  bf : ∀ k, -1000000 ≤ f k ∧ f k ≤ 1000000
  bh : ∀ k, -1000000 ≤ h k ∧ h k ≤ 1000000
  t : 0 ≤ f 8
  l2 : h (q * 4 + 0) = 2 → 0 ≤ f 9
  l7 : h (q * 4 + 0) = 7 → 0 ≤ h (q * 4 + 3)
  l11 : h (q * 4 + 0) = 11 → 0 ≤ h (q * 4 + 2)
theorem dq_new_c {n : Int} {own : List Ent} {ro : Addr → Option Value} {post : Value → H → Prop}
    (h1 : ¬ (1 ≤ n ∧ n ≤ 4) → post (.tuple (List.toArray [.pointer none, errV (eno 61 1)])) ⟨own, ro⟩)
    (h2 : ∀ p L, DqAt p n.toNat (fun _ => 0) (fun _ => 0) L → 1 ≤ n → n ≤ 4 → post (.tuple (List.toArray [.pointer (some (Addr.mk p 0 none)), errV none])) ⟨own ++ L, ro⟩) : SemCall Tryd.prog 16 (List.toArray [.int .i64 n]) ⟨own, ro⟩ post := by
  refine f16_call _ _ post ?_
  refine hands_c (fun hc => ⟨_, rfl, VIf_nerr (fun _ => ret (h1 hc)) (nomatch ·)⟩) (fun n1 n4 => ⟨none, rfl, VIf_nnil ?_⟩)
  obtain ⟨N, rfl⟩ : ∃ N : Nat, n = (N : Int) := ⟨n.toNat, by omega⟩
  have e : ∀ n : Nat, repl n [Value.int .i64 0, .int .i64 0, .int .i64 0, .int .i64 0] = ints (rm (n * 4) fun _ => 0) := fun n => by
    rw [repl_rows (f := fun _ => [Value.int .i64 0, .int .i64 0, .int .i64 0, .int .i64 0]) () n]
    induction n with
    | zero => rfl
    | succ n ih =>
      rw [List.replicate_succ', List.flatMap_append, ih, show (n + 1) * 4 = n * 4 + 1 + 1 + 1 + 1 by omega, rm_succ, rm_succ, rm_succ, rm_succ]
      simp [ints, intV]
  simp only [Int.toNat_natCast, e] at h2 ⊢
  refine ⟨by omega, by omega, by omega, by omega, fun bh _ p _ => ret ?_⟩
  rw [List.append_assoc]
  exact h2 p _ ⟨by omega, by omega, bh, _, _, rfl⟩ n1 n4
theorem dq_ends_c {p n : Nat} {f h : Nat → Int} {L own : List Ent} {ro : Addr → Option Value} {post : Value → H → Prop} (hs : DqAt p n f h L) (hL : ∀ e ∈ L, e ∈ own)
    (hk : post (.tuple (List.toArray [.int .i64 (f 8), .int .i64 (f 9)])) ⟨own, ro⟩) : SemCall Tryd.prog 24 (List.toArray [.pointer (some (Addr.mk p 0 none))]) ⟨own, ro⟩ post := by
  obtain ⟨h1, h4, bh, c, c1, rfl⟩ := hs
  refine f24_call _ _ post ?_
  refine ⟨_, rfl, f 8, ?_, _, rfl, f 9, ?_, ret hk⟩
  · rw [add_mk', add_mk']; exact rdo _ (hL _ (.tail _ (.head _))) rfl rfl
  · rw [add_mk', add_mk']; exact rdo _ (hL _ (.tail _ (.head _))) rfl rfl
def dBegin (h : Nat → Int) (q : Nat) (a v : Int) : Nat → Int := fun k => if q * 4 ≤ k ∧ k < q * 4 + 4 then gI [a, v, 0, 0] (k - q * 4) else h k
theorem dq_begin_c {p n q : Nat} {a v : Int} {f h : Nat → Int} {L own : List Ent} {ro : Addr → Option Value} {post : Value → H → Prop} (A C : List Ent) (hown : own = A ++ (L ++ C)) (hs : DqAt p n f h L) (hq : q < n)
    (hk : ∀ L', DqAt p n f (if h (q * 4) ≠ 0 then h else dBegin h q a v) L' → post (errV (eno 61 (if h (q * 4) ≠ 0 then 7 else 0))) ⟨A ++ (L' ++ C), ro⟩) :
    SemCall Tryd.prog 35 (List.toArray [.pointer (some (Addr.mk p 0 none)), .int .i64 (q : Int), .int .i64 a, .int .i64 v]) ⟨own, ro⟩ post := by
  refine lift A C hown (Q := fun L' => DqAt p n f (if h (q * 4) ≠ 0 then h else dBegin h q a v) L') ?_ hk
  clear hk hown post
  intro post hk
  obtain ⟨h1, h4, bh, c, c1, rfl⟩ := hs
  refine f35_call _ _ _ _ _ post ?_
  have rT : ∀ {K : SV → Prop}, K ⟨some (Addr.mk bh 0 none), n, n⟩ → ∃ x : SV, H.rd ⟨dqE p bh n f h c c1, ro⟩ (Addr.add (Addr.add (Addr.mk p 0 none) 10) 0) (.slice x.a x.len x.cap) ∧ K x := fun hK => by
    refine ⟨_, ?_, hK⟩
    rw [add_mk', add_mk']
    exact rdo _ (.tail _ (.head _)) rfl rfl
  refine ⟨_, rfl, rT ⟨_, rfl, by omega, by dsimp only; omega, h (q * 4), ?_, VIf_ne (fun h0 => ?_) (fun h0 => ?_)⟩⟩
  · rw [add_mk', add_mk', add_mk', show 0 + (q : Int).toNat * 4 + 0 + 0 = q * 4 by simp]
    exact rd_ints _ (.head _) rfl rfl (rm_get _ (by omega))
  · rw [if_pos h0, if_pos h0] at hk
    exact ret (hk _ ⟨h1, h4, bh, c, c1, rfl⟩)
  · rw [if_neg (not_not_intro h0), if_neg (not_not_intro h0)] at hk
    refine ⟨_, rfl, rT ⟨_, rfl, by omega, by dsimp only; omega, rfl, rfl, ?_⟩⟩
    rw [add_mk', show 0 + (q : Int).toNat * 4 = q * 4 by simp]
    refine wr_gI (vs := [a, v, 0, 0]) [] ⟨some bh, ints (rm (n * 4) h), c1⟩ _ rfl rfl rfl (by rw [rm_len]; simp; omega) (ret (hk _ ⟨h1, h4, bh, c, c1, ?_⟩))
    rw [rm_spl (by simp; omega)]
    rfl
end Go.Proofs.YtiaopgnnibidlaaDoor
