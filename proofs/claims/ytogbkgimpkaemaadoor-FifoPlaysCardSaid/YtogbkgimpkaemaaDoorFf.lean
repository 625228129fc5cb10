import Derived.Test.YtogbkgimpkaemaaDoorRf
import Derived.Test.YtogbkgimpkaemaaDoorEngK
namespace Go.Proofs.YtogbkgimpkaemaaDoor
open Go.Eng
set_option maxRecDepth 20000
/-! ### hands, and words that are changed if they are as told -/
theorem within_i {n lo hi : Int} {h : H} {post : Value → H → Prop} (h1 : ¬ (lo ≤ n ∧ n ≤ hi) → post (.bool false) h) (h2 : lo ≤ n → n ≤ hi → post (.bool true) h) : SemCall Tryd.prog 26 (List.toArray [.int .i64 n, .int .i64 lo, .int .i64 hi]) h post := by
  refine within_c ?_
  by_cases h : lo ≤ n ∧ n ≤ hi
  · rw [decide_eq_true h]; exact h2 h.1 h.2
  · rw [decide_eq_false h]; exact h1 h
theorem hands_c {n : Int} {h : H} {post : Value → H → Prop} (h1 : ¬ (1 ≤ n ∧ n ≤ 4) → post (errV (eno 65 1)) h) (h2 : 1 ≤ n → n ≤ 4 → post (errV none) h) : SemCall Tryd.prog 24 (List.toArray [.int .i64 n]) h post := by
  refine f24_call n h post (within_i (fun hc => ?_) (fun a b => ?_))
  · exact ⟨_, rfl, VIf_nb (fun _ => ret (h1 hc)) (nomatch ·)⟩
  · exact ⟨_, rfl, VIf_nb (nomatch ·) (fun _ => ret (h2 a b))⟩
theorem cas_c {b o : Nat} {x old new : Int} {own : List Ent} {ro : Addr → Option Value} {post : Value → H → Prop} (A : List Ent) (e : Ent) (C : List Ent) (hown : own = A ++ e :: C) (hid : e.id = some b) (hx : e.cells[o]? = some (.int .i64 x))
    (h1 : x = old → post (.bool true) ⟨A ++ ⟨some b, spl e.cells o [.int .i64 new], e.cap⟩ :: C, ro⟩) (h2 : x ≠ old → post (.bool false) ⟨own, ro⟩) :
    SemCall Tryd.prog 37 (List.toArray [.pointer (some (Addr.mk b o none)), .int .i64 old, .int .i64 new]) ⟨own, ro⟩ post := by
  refine f37_call _ _ _ _ post ?_
  simp only [f37_sem, add_mk', Option.some.injEq, exists_eq_left', Nat.add_zero]
  refine ⟨x, rdo e (by subst hown; simp) hid hx, VIf_ne (fun h => ret (h2 h)) (fun h => ?_)⟩
  have := (List.getElem?_eq_some_iff.1 hx).1
  exact wro A e C ⟨rfl, trivial⟩ hown hid (by simp; omega) (ret (by rw [hid]; exact h1 h))
def rm {α : Type} (n : Nat) (f : Nat → α) : List α := (List.range n).map f
theorem rm_len {α : Type} (n : Nat) (f : Nat → α) : (rm n f).length = n := by simp [rm]
theorem rm_get {α : Type} {n k : Nat} (f : Nat → α) (h : k < n) : (rm n f)[k]? = some (f k) := by simp [rm, h]
theorem rm_succ {α : Type} (n : Nat) (f : Nat → α) : rm (n + 1) f = rm n f ++ [f n] := by simp [rm, List.range_succ]
def updN {α : Type} (f : Nat → α) (q : Nat) (v : α) : Nat → α := fun p => if p = q then v else f p
theorem updN_same {α : Type} (f : Nat → α) (q : Nat) (v : α) : updN f q v q = v := if_pos rfl
theorem updN_ne {α : Type} {f : Nat → α} {q p : Nat} {v : α} (h : p ≠ q) : updN f q v p = f p := if_neg h
theorem rm_set {α : Type} (n k : Nat) (f : Nat → α) (v : α) : (rm n f).set k v = rm n (updN f k v) := by
  refine List.ext_getElem? fun i => ?_
  by_cases hi : i < n
  · rw [rm_get _ hi]
    by_cases hk : k = i
    · subst hk; rw [List.getElem?_set_self (by rw [rm_len]; exact hi), updN_same]
    · rw [List.getElem?_set_ne hk, rm_get _ hi, updN_ne (Ne.symm hk)]
  · rw [List.getElem?_eq_none (by simp [rm_len]; omega), List.getElem?_eq_none (by simp [rm_len]; omega)]
theorem updN_cases {α : Type} {f : Nat → α} {q : Nat} {v : α} (p : Nat) : (p = q ∧ updN f q v p = v) ∨ (p ≠ q ∧ updN f q v p = f p) := by
  by_cases h : p = q
  · subst h; exact .inl ⟨rfl, updN_same _ _ _⟩
  · exact .inr ⟨h, updN_ne h⟩
theorem gI_rm {n k : Nat} {f : Nat → Int} (h : k < n) : gI (rm n f) k = f k := by unfold gI; rw [rm_get _ h]; rfl
theorem rm_spl {n o : Nat} {f : Nat → Int} {vs : List Int} (h : o + vs.length ≤ n) : splI (rm n f) o vs = rm n fun k => if o ≤ k ∧ k < o + vs.length then gI vs (k - o) else f k := by
  refine List.ext_getElem? fun k => ?_
  have hl : (splI (rm n f) o vs).length = n := by rw [splI_length (by rw [rm_len]; exact h), rm_len]
  by_cases hk : k < n
  · rw [rm_get _ hk]
    have e := gI_spl (m := rm n f) (vs := vs) (o := o) (by rw [rm_len]; exact h) k
    rw [gI_rm hk] at e
    unfold gI at e
    rw [List.getElem?_eq_getElem (by omega)] at e ⊢
    exact congrArg some e
  · rw [List.getElem?_eq_none (by omega), List.getElem?_eq_none (by rw [rm_len]; omega)]
theorem idxI {h : H} {s : SV} {xs : List Int} (r : RdSl h s (ints xs)) {i : Int} (h0 : 0 ≤ i) (h1 : i < (xs.length : Int)) {K : Int → Prop} (hK : K (gI xs i.toNat)) :
    ∃ b : Addr, s.a = some b ∧ 0 ≤ i ∧ i < ((s.len : Nat) : Int) ∧ ∃ x : Int, H.rd h (Addr.add (Addr.add b (i.toNat * 1)) 0) (Value.int .i64 x) ∧ K x := by
  have hl := r.len
  rw [ints_length] at hl
  refine r.idx h0 (by omega) fun x hx => ?_
  have : gI xs i.toNat = x := by unfold gI; rw [hx]; rfl
  rw [← this]; exact hK
theorem idx0 {h : H} {s : SV} {xs : List Int} (r : RdSl h s (ints xs)) (h1 : 0 < xs.length) {K : Int → Prop} (hK : K (gI xs 0)) :
    ∃ b : Addr, s.a = some b ∧ 0 ≤ (0 : Int) ∧ (0 : Int) < ((s.len : Nat) : Int) ∧ ∃ x : Int, H.rd h (Addr.add (Addr.add b ((0 : Int).toNat * 1)) 0) (Value.int .i64 x) ∧ K x := idxI r (by omega) (by omega) hK
theorem idx1 {h : H} {s : SV} {xs : List Int} (r : RdSl h s (ints xs)) (h1 : 1 < xs.length) {K : Int → Prop} (hK : K (gI xs 1)) :
    ∃ b : Addr, s.a = some b ∧ 0 ≤ (1 : Int) ∧ (1 : Int) < ((s.len : Nat) : Int) ∧ ∃ x : Int, H.rd h (Addr.add (Addr.add b ((1 : Int).toNat * 1)) 0) (Value.int .i64 x) ∧ K x := idxI r (by omega) (by omega) hK
theorem gI_of {m : List Int} {k : Nat} {x : Int} (h : m[k]? = some x) : gI m k = x := by unfold gI; rw [h]; rfl
theorem gI_ex {m : List Int} {k : Nat} (h : k < m.length) : m[k]? = some (gI m k) := by unfold gI; rw [List.getElem?_eq_getElem h]; rfl
/-! ### a queue with two ends -/
def fqE (p bh n : Nat) (f h : Nat → Int) (c c1 : Nat) : List Ent := [⟨some bh, ints (rm (n * 5) h), c1⟩, ⟨some p, ints (rm 83 f) ++ [.slice (some (Addr.mk bh 0 none)) n n], c⟩]
def FqAt (p n : Nat) (f h : Nat → Int) (L : List Ent) : Prop := 1 ≤ n ∧ n ≤ 4 ∧ ∃ bh c c1, L = fqE p bh n f h c c1
def fHand (h : Nat → Int) (q : Nat) (vs : List Int) : Nat → Int := fun k => if q * 5 ≤ k ∧ k < q * 5 + 5 then gI vs (k - q * 5) else h k
def fDone (h : Nat → Int) (q : Nat) : Nat → Int := fHand h q [0, 0, 0, 0, 0]
def fF0 : Nat → Int := fun k => if k = 82 then 1 else if 2 ≤ k ∧ k < 42 then -1 else 0
/-- one line of a hand that does something: what is left, whether it is done, what it tells -/
def fStep (f h : Nat → Int) (q : Nat) : (Nat → Int) × (Nat → Int) × Bool × Int :=
  let a := h (q * 5 + 0)
  let nd := h (q * 5 + 1)
  let hd := h (q * 5 + 2)
  let tl := h (q * 5 + 3)
  let nt := h (q * 5 + 4)
  let nx := fun (f h : Nat → Int) (v : Int) => (f, updN h (q * 5 + 0) v, false, (0 : Int))
  let dn := fun (f h : Nat → Int) (v : Int) => (f, fDone h q, true, v)
  if a = 1 then nx f (updN h (q * 5 + 3) (f 1)) 2
  else if a = 2 then nx f (updN h (q * 5 + 4) (f (2 + tl.toNat))) (if f (2 + tl.toNat) ≥ 0 then 4 else 3)
  else if a = 3 then (if f (2 + tl.toNat) = -1 then nx (updN f (2 + tl.toNat) nd) h 5 else nx f h 1)
  else if a = 4 then nx (if f 1 = tl then updN f 1 nt else f) h 1
  else if a = 5 then dn (if f 1 = tl then updN f 1 nd else f) h (-1)
  else if a = 6 then nx f (updN h (q * 5 + 2) (f 0)) 7
  else if a = 7 then nx f (updN h (q * 5 + 3) (f 1)) 8
  else if a = 8 then (if hd = tl ∧ f (2 + hd.toNat) < 0 then dn f (updN h (q * 5 + 4) (f (2 + hd.toNat))) (-1) else nx f (updN h (q * 5 + 4) (f (2 + hd.toNat))) (if hd ≠ tl then 10 else 9))
  else if a = 9 then nx (if f 1 = tl then updN f 1 nt else f) h 6
  else if a = 10 then (if f 0 = hd then dn (updN f 0 nt) h (updN f 0 nt (42 + nt.toNat)) else nx f h 6)
  else nx f h (a + 1)
/-- what a line needs -/
structure FOk (f h : Nat → Int) (q : Nat) : Prop where
  b : -1000000 ≤ h (q * 5 + 0) ∧ h (q * 5 + 0) ≤ 1000000
  t : h (q * 5 + 0) = 2 ∨ h (q * 5 + 0) = 3 → 0 ≤ h (q * 5 + 3) ∧ h (q * 5 + 3) < 40
  d : h (q * 5 + 0) = 8 → 0 ≤ h (q * 5 + 2) ∧ h (q * 5 + 2) < 40
  x : h (q * 5 + 0) = 10 → f 0 = h (q * 5 + 2) → 0 ≤ h (q * 5 + 4) ∧ h (q * 5 + 4) < 40
theorem fHand_spl {n q : Nat} {h : Nat → Int} {vs : List Int} (hq : q < n) (hl : vs.length = 5) : splI (rm (n * 5) h) (q * 5) vs = rm (n * 5) (fHand h q vs) := by
  rw [rm_spl (by omega), hl]
  rfl
theorem fq_new_c {n : Int} {own : List Ent} {ro : Addr → Option Value} {post : Value → H → Prop}
    (h1 : ¬ (1 ≤ n ∧ n ≤ 4) → post (.tuple (List.toArray [.pointer none, errV (eno 65 1)])) ⟨own, ro⟩)
    (h2 : ∀ p L, FqAt p n.toNat fF0 (fun _ => 0) L → 1 ≤ n → n ≤ 4 → post (.tuple (List.toArray [.pointer (some (Addr.mk p 0 none)), errV none])) ⟨own ++ L, ro⟩) : SemCall Tryd.prog 15 (List.toArray [.int .i64 n]) ⟨own, ro⟩ post := by
  refine f15_call _ _ post ?_
  refine hands_c (fun hc => ⟨_, rfl, VIf_nerr (fun _ => ret (h1 hc)) (nomatch ·)⟩) (fun n1 n4 => ⟨none, rfl, VIf_nnil ?_⟩)
  obtain ⟨N, rfl⟩ : ∃ N : Nat, n = (N : Int) := ⟨n.toNat, by omega⟩
  have e : ∀ n : Nat, repl n [Value.int .i64 0, .int .i64 0, .int .i64 0, .int .i64 0, .int .i64 0] = ints (rm (n * 5) fun _ => 0) := fun n => by
    rw [repl_rows (f := fun _ => [Value.int .i64 0, .int .i64 0, .int .i64 0, .int .i64 0, .int .i64 0]) () n]
    induction n with
    | zero => rfl
    | succ n ih =>
      rw [List.replicate_succ', List.flatMap_append, ih, show (n + 1) * 5 = n * 5 + 1 + 1 + 1 + 1 + 1 by omega, rm_succ, rm_succ, rm_succ, rm_succ, rm_succ]
      simp [ints, intV]
  simp only [Int.toNat_natCast, e] at h2 ⊢
  refine ⟨by omega, by omega, by omega, by omega, fun bh _ p _ => ?_⟩
  have hf : ∀ k : Nat, k ≤ 40 → OwnsSl 1 ⟨none, 0, 0⟩ ⟨none, [], 0⟩ [] := fun _ _ => OwnsSl.nil 1
  let F : Nat → Nat → Int := fun m k => if k = 82 then 1 else if 2 ≤ k ∧ k < 2 + m then -1 else 0
  have e0 : ([Value.int .i64 0, .int .i64 0, .int .i64 0, .int .i64 0, .int .i64 0, .int .i64 0, .int .i64 0, .int .i64 0, .int .i64 0, .int .i64 0, .int .i64 0, .int .i64 0, .int .i64 0, .int .i64 0, .int .i64 0, .int .i64 0, .int .i64 0, .int .i64 0, .int .i64 0, .int .i64 0, .int .i64 0, .int .i64 0, .int .i64 0, .int .i64 0, .int .i64 0, .int .i64 0, .int .i64 0, .int .i64 0, .int .i64 0, .int .i64 0, .int .i64 0, .int .i64 0, .int .i64 0, .int .i64 0, .int .i64 0, .int .i64 0, .int .i64 0, .int .i64 0, .int .i64 0, .int .i64 0, .int .i64 0,
    .int .i64 0, .int .i64 0, .int .i64 0, .int .i64 0, .int .i64 0, .int .i64 0, .int .i64 0, .int .i64 0, .int .i64 0, .int .i64 0, .int .i64 0, .int .i64 0, .int .i64 0, .int .i64 0, .int .i64 0, .int .i64 0, .int .i64 0, .int .i64 0, .int .i64 0, .int .i64 0, .int .i64 0, .int .i64 0, .int .i64 0, .int .i64 0, .int .i64 0, .int .i64 0, .int .i64 0, .int .i64 0, .int .i64 0, .int .i64 0, .int .i64 0, .int .i64 0, .int .i64 0, .int .i64 0, .int .i64 0, .int .i64 0, .int .i64 0, .int .i64 0, .int .i64 0, .int .i64 0, .int .i64 0, .int .i64 1, .slice (some (Addr.mk bh 0 none)) N N] : List Value) = ints (rm 83 (F 0)) ++ [.slice (some (Addr.mk bh 0 none)) N N] := by rfl
  rw [e0]
  obtain ⟨c, hc⟩ : ∃ c, c = (ints (rm 83 (F 0)) ++ [Value.slice (some (Addr.mk bh 0 none)) N N]).length := ⟨_, rfl⟩
  obtain ⟨c1, hc1⟩ : ∃ c1, c1 = (ints (rm (N * 5) fun _ => 0)).length := ⟨_, rfl⟩
  rw [← hc, ← hc1]
  refine ⟨fun h => h = ⟨own ++ [⟨some bh, ints (rm (N * 5) fun _ => 0), c1⟩] ++ [⟨some p, ints (rm 83 (F 40)) ++ [.slice (some (Addr.mk bh 0 none)) N N], c⟩], ro⟩,
    ⟨fun m i h => ∃ k : Nat, i = (k : Int) ∧ k ≤ 40 ∧ m = 40 - k ∧ h = ⟨own ++ [⟨some bh, ints (rm (N * 5) fun _ => 0), c1⟩] ++ [⟨some p, ints (rm 83 (F k)) ++ [.slice (some (Addr.mk bh 0 none)) N N], c⟩], ro⟩, ⟨_, gi ⟨0, rfl, by omega, rfl, rfl⟩⟩, ?_⟩, ?_⟩
  · rintro m _ i _ ⟨k, rfl, hk, rfl, rfl⟩
    refine VIf_dec (fun hi => ?_) (fun hi => gi (by rw [show k = 40 by omega]))
    refine ⟨_, rfl, by omega, by omega, ?_⟩
    rw [add_mk', add_mk', Int.toNat_natCast, show 0 + 2 + k * 1 = 2 + k by omega]
    refine wro (own ++ [⟨some bh, ints (rm (N * 5) fun _ => 0), c1⟩]) ⟨some p, ints (rm 83 (F k)) ++ [.slice (some (Addr.mk bh 0 none)) N N], c⟩ [] ⟨rfl, trivial⟩ rfl rfl (by simp [rm_len]; omega) ⟨⟨by omega, by omega⟩, 40 - (k + 1), by omega, gi ⟨k + 1, by omega, by omega, rfl, ?_⟩⟩
    have : spl (ints (rm 83 (F k)) ++ [.slice (some (Addr.mk bh 0 none)) N N]) (2 + k) [.int .i64 (-1)] = ints (rm 83 (F (k + 1))) ++ [.slice (some (Addr.mk bh 0 none)) N N] := by
      rw [spl_append_left (by simp [rm_len]; omega), ints_spl _ _ _ (by rw [rm_len]; omega), rm_set]
      congr 3
      funext j
      rcases updN_cases (f := F k) (q := 2 + k) (v := -1) j with ⟨h1, h2⟩ | ⟨h1, h2⟩
      · rw [h2, h1]; simp only [F]; rw [if_neg (by omega), if_pos (by omega)]
      · rw [h2]; simp only [F]
        by_cases h82 : j = 82
        · rw [if_pos h82, if_pos h82]
        · rw [if_neg h82, if_neg h82]
          by_cases hx : 2 ≤ j ∧ j < 2 + k
          · rw [if_pos hx, if_pos (by omega)]
          · rw [if_neg hx, if_neg (by omega)]
    rw [this]
  rintro _ _ rfl
  rw [List.append_assoc]
  refine ret (h2 p _ ⟨by omega, by omega, bh, c, c1, ?_⟩ n1 n4)
  rfl
theorem fq_ends_c {p n : Nat} {f h : Nat → Int} {L own : List Ent} {ro : Addr → Option Value} {post : Value → H → Prop} (hs : FqAt p n f h L) (hL : ∀ e ∈ L, e ∈ own)
    (hk : post (.tuple (List.toArray [.int .i64 (f 0), .int .i64 (f 1)])) ⟨own, ro⟩) : SemCall Tryd.prog 22 (List.toArray [.pointer (some (Addr.mk p 0 none))]) ⟨own, ro⟩ post := by
  obtain ⟨h1, h4, bh, c, c1, rfl⟩ := hs
  refine f22_call _ _ post ?_
  refine ⟨_, rfl, f 0, ?_, _, rfl, f 1, ?_, ret hk⟩
  · rw [add_mk', add_mk']; exact rdo _ (hL _ (.tail _ (.head _))) rfl rfl
  · rw [add_mk', add_mk']; exact rdo _ (hL _ (.tail _ (.head _))) rfl rfl
def fFree (n : Nat) (h : Nat → Int) (q : Int) : Int := if ¬ (0 ≤ q ∧ q ≤ (n : Int) - 1) then 1 else if h (q.toNat * 5) ≠ 0 then 7 else 0
theorem fq_rT {p bh n c c1 : Nat} {f h : Nat → Int} {own : List Ent} {ro : Addr → Option Value} (hL : ∀ e ∈ fqE p bh n f h c c1, e ∈ own) {K : SV → Prop} (hK : K ⟨some (Addr.mk bh 0 none), n, n⟩) : ∃ x : SV, H.rd ⟨own, ro⟩ (Addr.add (Addr.add (Addr.mk p 0 none) 83) 0) (.slice x.a x.len x.cap) ∧ K x := by
  refine ⟨_, ?_, hK⟩
  rw [add_mk', add_mk']
  exact rdo _ (hL _ (.tail _ (.head _))) rfl rfl
theorem fq_free_c {p n : Nat} {q : Int} {f h : Nat → Int} {L own : List Ent} {ro : Addr → Option Value} {post : Value → H → Prop} (hs : FqAt p n f h L) (hL : ∀ e ∈ L, e ∈ own)
    (hk : post (errV (eno 65 (fFree n h q))) ⟨own, ro⟩) : SemCall Tryd.prog 34 (List.toArray [.pointer (some (Addr.mk p 0 none)), .int .i64 q]) ⟨own, ro⟩ post := by
  obtain ⟨h1, h4, bh, c, c1, rfl⟩ := hs
  refine f34_call _ _ _ post ?_
  refine ⟨_, rfl, fq_rT hL ⟨⟨by dsimp only; omega, by dsimp only; omega⟩, within_c ⟨_, rfl, VIf_nb (fun hc => ?_) (fun hc => ⟨_, rfl, fq_rT hL ?_⟩)⟩⟩⟩
  · have hc := of_decide_eq_false hc
    rw [fFree, if_pos hc] at hk
    exact ret hk
  · have hc := of_decide_eq_true hc
    dsimp only at hc
    rw [fFree, if_neg (not_not_intro hc)] at hk
    refine ⟨_, rfl, hc.1, by dsimp only; omega, h (q.toNat * 5), ?_, VIf_ne (fun h0 => ?_) (fun h0 => ?_)⟩
    · rw [add_mk', add_mk', add_mk', show 0 + q.toNat * 5 + 0 + 0 = q.toNat * 5 by omega]
      exact rd_ints _ (hL _ (.head _)) rfl rfl (rm_get _ (by omega))
    · rw [if_pos h0] at hk; exact ret hk
    · rw [if_neg (not_not_intro h0)] at hk; exact ret hk
/-- to get is begun -/
def fGet (n : Nat) (h : Nat → Int) (q : Int) : (Nat → Int) × Int := if fFree n h q ≠ 0 then (h, fFree n h q) else (fHand h q.toNat [6, 0, 0, 0, 0], 0)
theorem fFree_zero {n : Nat} {h : Nat → Int} {q : Int} (hz : fFree n h q = 0) : (0 ≤ q ∧ q ≤ (n : Int) - 1) ∧ h (q.toNat * 5) = 0 := by
  unfold fFree at hz
  split at hz
  · cases hz
  rename_i h1
  split at hz
  · cases hz
  rename_i h2
  exact ⟨Classical.byContradiction h1, Classical.byContradiction h2⟩
theorem fq_get_c {p n : Nat} {q : Int} {f h : Nat → Int} {L own : List Ent} {ro : Addr → Option Value} {post : Value → H → Prop} (A C : List Ent) (hown : own = A ++ (L ++ C)) (hs : FqAt p n f h L)
    (hk : ∀ L', FqAt p n f (fGet n h q).1 L' → post (errV (eno 65 (fGet n h q).2)) ⟨A ++ (L' ++ C), ro⟩) : SemCall Tryd.prog 19 (List.toArray [.pointer (some (Addr.mk p 0 none)), .int .i64 q]) ⟨own, ro⟩ post := by
  refine lift A C hown (Q := fun L' => FqAt p n f (fGet n h q).1 L') ?_ hk
  clear hk hown post
  intro post hk
  unfold fGet at hk
  refine f19_call _ _ _ post (fq_free_c hs (fun _ h => h) ⟨_, rfl, VIf_nerr (fun hc => ?_) (fun hc => ?_)⟩)
  · rw [if_pos hc] at hk; exact ret (hk _ hs)
  · rw [if_neg (not_not_intro hc)] at hk
    obtain ⟨hq, _⟩ := fFree_zero hc
    obtain ⟨h1, h4, bh, c, c1, rfl⟩ := hs
    refine ⟨_, rfl, fq_rT (fun _ h => h) ⟨_, rfl, hq.1, by dsimp only; omega, rfl, rfl, ?_⟩⟩
    rw [add_mk', Nat.zero_add]
    refine wr_gI (vs := [6, 0, 0, 0, 0]) [] ⟨some bh, ints (rm (n * 5) h), c1⟩ _ rfl rfl rfl (by rw [rm_len]; simp; omega) (ret (hk _ ⟨h1, h4, bh, c, c1, ?_⟩))
    rw [fHand_spl (by omega) rfl]
    rfl
/-- to put is begun -/
def fPut (n : Nat) (f h : Nat → Int) (q v : Int) : (Nat → Int) × (Nat → Int) × Int :=
  if ¬ (0 ≤ v ∧ v ≤ 1000) then (f, h, 1) else if fFree n h q ≠ 0 then (f, h, fFree n h q) else if f 82 = 40 then (f, h, 4)
  else (updN (updN f (42 + (f 82).toNat) v) 82 (f 82 + 1), fHand h q.toNat [1, f 82, 0, 0, 0], 0)
theorem fq_put_c {p n : Nat} {q v : Int} {f h : Nat → Int} {L own : List Ent} {ro : Addr → Option Value} {post : Value → H → Prop} (A C : List Ent) (hown : own = A ++ (L ++ C)) (hs : FqAt p n f h L) (hm : 0 ≤ f 82 ∧ f 82 ≤ 40)
    (hk : ∀ L', FqAt p n (fPut n f h q v).1 (fPut n f h q v).2.1 L' → post (errV (eno 65 (fPut n f h q v).2.2)) ⟨A ++ (L' ++ C), ro⟩) : SemCall Tryd.prog 17 (List.toArray [.pointer (some (Addr.mk p 0 none)), .int .i64 q, .int .i64 v]) ⟨own, ro⟩ post := by
  refine lift A C hown (Q := fun L' => FqAt p n (fPut n f h q v).1 (fPut n f h q v).2.1 L') ?_ hk
  clear hk hown post
  intro post hk
  unfold fPut at hk
  refine f17_call _ _ _ _ post (within_c ⟨_, rfl, VIf_nb (fun hv => ?_) (fun hv => ?_)⟩)
  · rw [if_pos (of_decide_eq_false hv)] at hk; exact ret (hk _ hs)
  rw [if_neg (not_not_intro (of_decide_eq_true hv))] at hk
  refine fq_free_c hs (fun _ h => h) ⟨_, rfl, VIf_nerr (fun hc => ?_) (fun hc => ?_)⟩
  · rw [if_pos hc] at hk; exact ret (hk _ hs)
  rw [if_neg (not_not_intro hc)] at hk
  obtain ⟨hq, _⟩ := fFree_zero hc
  obtain ⟨h1, h4, bh, c, c1, rfl⟩ := hs
  obtain ⟨M, hM⟩ : ∃ M : Nat, f 82 = (M : Int) := ⟨(f 82).toNat, by omega⟩
  have RF : ∀ {f h : Nat → Int} {K : Int → Prop} (k : Nat), k < 83 → K (f k) → ∃ x : Int, H.rd ⟨fqE p bh n f h c c1, ro⟩ (Addr.add (Addr.add (Addr.mk p 0 none) k) 0) (.int .i64 x) ∧ K x := fun {f h K} k hk hK => by
    refine ⟨_, ?_, hK⟩
    rw [add_mk', add_mk', Nat.add_zero, Nat.zero_add]
    refine rdo ⟨some p, ints (rm 83 f) ++ [.slice (some (Addr.mk bh 0 none)) n n], c⟩ (by simp [fqE]) rfl ?_
    rw [List.getElem?_append_left (by simp [rm_len, hk]), ints_get, rm_get _ hk]; rfl
  have WF : ∀ {f h : Nat → Int} {v : Int} {K : H → Prop} (k : Nat), k < 83 → K ⟨fqE p bh n (updN f k v) h c c1, ro⟩ → H.wr ⟨fqE p bh n f h c c1, ro⟩ (Addr.mk p k none) [.int .i64 v] K := fun {f h v K} k hk hK => by
    refine wro [⟨some bh, ints (rm (n * 5) h), c1⟩] ⟨some p, ints (rm 83 f) ++ [.slice (some (Addr.mk bh 0 none)) n n], c⟩ [] ⟨rfl, trivial⟩ rfl rfl (by simp [rm_len]; omega) ?_
    rw [spl_append_left (by simp [rm_len]; omega), ints_spl _ _ _ (by rw [rm_len]; exact hk), rm_set]
    exact hK
  refine ⟨_, rfl, RF 82 (by omega) (VIf_eq (fun h40 => ?_) (fun h40 => ?_))⟩
  · rw [if_pos h40] at hk; exact ret (hk _ ⟨h1, h4, bh, c, c1, rfl⟩)
  rw [if_neg h40] at hk
  have eM : (f 82).toNat = M := by omega
  refine ⟨_, rfl, RF 82 (by omega) ⟨_, rfl, by omega, by omega, ?_⟩⟩
  rw [add_mk', add_mk', eM, show 0 + 42 + M * 1 = 42 + M by omega]
  refine WF (42 + M) (by omega) ⟨_, rfl, fq_rT (fun _ h => h) ⟨_, rfl, RF 82 (by omega) ⟨_, rfl, hq.1, by dsimp only; omega, rfl, rfl, ?_⟩⟩⟩
  rw [updN_ne (show 82 ≠ 42 + M by omega), add_mk', Nat.zero_add]
  refine wr_gI (vs := [1, f 82, 0, 0, 0]) [] ⟨some bh, ints (rm (n * 5) h), c1⟩ _ rfl rfl rfl (by rw [rm_len]; simp; omega) ?_
  rw [fHand_spl (by omega) rfl]
  refine ⟨_, rfl, RF (h := fHand h q.toNat [1, f 82, 0, 0, 0]) 82 (by omega) ?_⟩
  rw [updN_ne (show 82 ≠ 42 + M by omega)]
  refine ⟨⟨by omega, by omega⟩, _, rfl, ?_⟩
  rw [add_mk', Nat.zero_add]
  refine WF (h := fHand h q.toNat [1, f 82, 0, 0, 0]) 82 (by omega) (ret ?_)
  rw [eM] at hk
  exact hk _ ⟨h1, h4, bh, c, c1, rfl⟩
theorem fq_out_c {p n : Nat} {q : Int} {f h : Nat → Int} {L own : List Ent} {ro : Addr → Option Value} {post : Value → H → Prop} (hs : FqAt p n f h L) (hL : ∀ e ∈ L, e ∈ own) (hq : ¬ (0 ≤ q ∧ q ≤ (n : Int) - 1))
    (hk : post (.tuple (List.toArray [.bool false, .int .i64 0, errV (eno 65 1)])) ⟨own, ro⟩) : SemCall Tryd.prog 21 (List.toArray [.pointer (some (Addr.mk p 0 none)), .int .i64 q]) ⟨own, ro⟩ post := by
  obtain ⟨h1, h4, bh, c, c1, rfl⟩ := hs
  refine f21_call _ _ _ post ?_
  exact ⟨_, rfl, fq_rT hL ⟨⟨by dsimp only; omega, by dsimp only; omega⟩, within_c ⟨_, rfl, VIf_nb (fun _ => ret hk) (fun hc => absurd (of_decide_eq_true hc) hq)⟩⟩⟩
/-- one line of any hand: what is left, whether it is done, what it tells, and the error -/
def fStepE (f h : Nat → Int) (q : Nat) : (Nat → Int) × (Nat → Int) × Bool × Int × Int :=
  if h (q * 5 + 0) = 0 then (f, h, false, 0, 7) else ((fStep f h q).1, (fStep f h q).2.1, (fStep f h q).2.2.1, (fStep f h q).2.2.2, 0)
set_option maxHeartbeats 2000000 in
theorem fq_step_c {p n q : Nat} {f h : Nat → Int} {L own : List Ent} {ro : Addr → Option Value} {post : Value → H → Prop} (A C : List Ent) (hown : own = A ++ (L ++ C)) (hs : FqAt p n f h L) (hq : q < n) (hd : FOk f h q)
    (hk : ∀ L', FqAt p n (fStepE f h q).1 (fStepE f h q).2.1 L' → post (.tuple (List.toArray [.bool (fStepE f h q).2.2.1, .int .i64 (fStepE f h q).2.2.2.1, errV (eno 65 (fStepE f h q).2.2.2.2)])) ⟨A ++ (L' ++ C), ro⟩) :
    SemCall Tryd.prog 21 (List.toArray [.pointer (some (Addr.mk p 0 none)), .int .i64 (q : Int)]) ⟨own, ro⟩ post := by
  refine lift A C hown (Q := fun L' => FqAt p n (fStepE f h q).1 (fStepE f h q).2.1 L') ?_ hk
  clear hk hown post
  intro post hk
  obtain ⟨h1, h4, bh, c, c1, rfl⟩ := hs
  refine f21_call _ _ _ post ?_
  obtain ⟨hb, ht, hdd, hx⟩ := hd
  refine ⟨_, rfl, fq_rT (fun _ h => h) ⟨⟨by dsimp only; omega, by dsimp only; omega⟩, within_c ⟨_, rfl, VIf_nb (fun hc => absurd ⟨by omega, by dsimp only; omega⟩ (of_decide_eq_false hc)) (fun _ => ⟨_, rfl, fq_rT (fun _ h => h) ⟨_, rfl, by omega, by dsimp only; omega, ?_⟩⟩)⟩⟩⟩
  rw [add_mk', show 0 + (q : Int).toNat * 5 = q * 5 by simp]
  obtain ⟨E, hE⟩ : ∃ E : (Nat → Int) → (Nat → Int) → List Ent, E = fun f h => fqE p bh n f h c c1 := ⟨_, rfl⟩
  rw [show fqE p bh n f h c c1 = E f h by rw [hE]]
  have RF : ∀ {f h : Nat → Int} {K : Int → Prop} (k : Nat), k < 83 → K (f k) → ∃ x : Int, H.rd ⟨E f h, ro⟩ (Addr.add (Addr.add (Addr.mk p 0 none) k) 0) (.int .i64 x) ∧ K x := fun {f h K} k hk hK => by
    refine ⟨_, ?_, hK⟩
    subst hE
    rw [add_mk', add_mk', Nat.add_zero, Nat.zero_add]
    refine rdo ⟨some p, ints (rm 83 f) ++ [.slice (some (Addr.mk bh 0 none)) n n], c⟩ (by simp [fqE]) rfl ?_
    rw [List.getElem?_append_left (by simp [rm_len, hk]), ints_get, rm_get _ hk]; rfl
  have RA : ∀ {f h : Nat → Int} {K : Int → Prop} (k j : Nat) (i : Int), 0 ≤ i → k + i.toNat < 83 → j = k → K (f (k + i.toNat)) → ∃ x : Int, H.rd ⟨E f h, ro⟩ (Addr.add (Addr.add (Addr.add (Addr.mk p 0 none) k) (i.toNat * 1)) 0) (.int .i64 x) ∧ K x := fun {f h K} k j i h0 hk _ hK => by
    obtain ⟨x, g1, g2⟩ := RF (f := f) (h := h) (K := K) (k + i.toNat) hk hK
    refine ⟨x, ?_, g2⟩
    rw [add_mk', add_mk'] at g1
    rw [add_mk', add_mk', add_mk', Nat.mul_one, ← Nat.add_assoc] at *
    exact g1
  have RH : ∀ {f h : Nat → Int} {K : Int → Prop} (j : Nat), j < 5 → K (h (q * 5 + j)) → ∃ x : Int, H.rd ⟨E f h, ro⟩ (Addr.add (Addr.add (Addr.mk bh (q * 5) none) j) 0) (.int .i64 x) ∧ K x := fun {f h K} j hj hK => by
    refine ⟨_, ?_, hK⟩
    subst hE
    rw [add_mk', add_mk', Nat.add_zero]
    exact rd_ints ⟨some bh, ints (rm (n * 5) h), c1⟩ (by simp [fqE]) rfl rfl (rm_get _ (by omega))
  have WF : ∀ {f h : Nat → Int} {v : Int} {K : H → Prop} (k : Nat), k < 83 → K ⟨E (updN f k v) h, ro⟩ → H.wr ⟨E f h, ro⟩ (Addr.mk p k none) [.int .i64 v] K := fun {f h v K} k hk hK => by
    subst hE
    refine wro [⟨some bh, ints (rm (n * 5) h), c1⟩] ⟨some p, ints (rm 83 f) ++ [.slice (some (Addr.mk bh 0 none)) n n], c⟩ [] ⟨rfl, trivial⟩ rfl rfl (by simp [rm_len]; omega) ?_
    rw [spl_append_left (by simp [rm_len]; omega), ints_spl _ _ _ (by rw [rm_len]; exact hk), rm_set]
    exact hK
  have WH : ∀ {f h : Nat → Int} {v : Int} {K : H → Prop} (j : Nat), j < 5 → K ⟨E f (updN h (q * 5 + j) v), ro⟩ → H.wr ⟨E f h, ro⟩ (Addr.add (Addr.mk bh (q * 5) none) j) [.int .i64 v] K := fun {f h v K} j hj hK => by
    subst hE
    rw [add_mk']
    refine wr_ints [] ⟨some bh, ints (rm (n * 5) h), c1⟩ [⟨some p, ints (rm 83 f) ++ [.slice (some (Addr.mk bh 0 none)) n n], c⟩] rfl rfl rfl (by rw [rm_len]; omega) ?_
    rw [rm_set]
    exact hK
  have WD : ∀ {f h : Nat → Int} {K : H → Prop}, K ⟨E f (fDone h q), ro⟩ → H.wr ⟨E f h, ro⟩ (Addr.mk bh (q * 5) none) [.int .i64 0, .int .i64 0, .int .i64 0, .int .i64 0, .int .i64 0] K := fun {f h K} hK => by
    subst hE
    refine wr_gI (vs := [0, 0, 0, 0, 0]) [] ⟨some bh, ints (rm (n * 5) h), c1⟩ _ rfl rfl rfl (by rw [rm_len]; simp; omega) ?_
    rw [fHand_spl hq rfl]
    exact hK
  have CS : ∀ {f h : Nat → Int} {o v : Int} {K : Value → H → Prop} (k : Nat), k < 83 → (f k = o → K (.bool true) ⟨E (updN f k v) h, ro⟩) → (f k ≠ o → K (.bool false) ⟨E f h, ro⟩) → SemCall Tryd.prog 37 (List.toArray [.pointer (some (Addr.mk p k none)), .int .i64 o, .int .i64 v]) ⟨E f h, ro⟩ K := fun {f h o v K} k hk k1 k2 => by
    refine f37_call _ _ _ _ K ?_
    obtain ⟨x, g1, g2⟩ := RF (f := f) (h := h) (K := fun x => x = f k) k hk rfl
    rw [add_mk', Nat.zero_add] at g1
    subst g2
    exact ⟨_, rfl, _, g1, VIf_ne (fun hc => ret (k2 hc)) (fun hc => ⟨_, rfl, WF k hk (ret (k1 hc))⟩)⟩
  have fin : ∀ {f' h' : Nat → Int} {b : Bool} {g e : Int}, fStepE f h q = (f', h', b, g, e) → VRet ⟨E f' h', ro⟩ (.tuple (List.toArray [.bool b, .int .i64 g, errV (eno 65 e)])) post := fun {f' h' b g e} he => by
    subst hE
    rw [he] at hk
    exact ret (hk _ ⟨h1, h4, bh, c, c1, rfl⟩)
  refine ⟨_, rfl, RH 0 (by omega) ⟨⟨by omega, by omega⟩, _, rfl, RH 0 (by omega) (VIf_eq (fun a0 => ?_) (fun a0 => ?_))⟩⟩
  · exact fin (by unfold fStepE; rw [if_pos a0])
  have ne34 : ∀ {v : Int} {h : Nat → Int}, updN h (q * 5 + 4) v (q * 5 + 3) = h (q * 5 + 3) := updN_ne (by omega)
  have ne24 : ∀ {v : Int} {h : Nat → Int}, updN h (q * 5 + 4) v (q * 5 + 2) = h (q * 5 + 2) := updN_ne (by omega)
  refine ⟨fun nx h' => ∃ f1 h1, h' = ⟨E f1 h1, ro⟩ ∧ fStepE f h q = (f1, updN h1 (q * 5 + 0) nx, false, 0, 0), ?_, ?_⟩
  rotate_left
  · rintro _ nx h' ⟨f1, h1, rfl, e⟩
    exact ⟨_, rfl, WH 0 (by omega) (fin e)⟩
  refine VIf_eq (fun a1 => ?_) (fun a1 => VIf_eq (fun a2 => ?_) (fun a2 => VIf_eq (fun a3 => ?_) (fun a3 => VIf_eq (fun a4 => ?_) (fun a4 => VIf_eq (fun a5 => ?_) (fun a5 => VIf_eq (fun a6 => ?_) (fun a6 => VIf_eq (fun a7 => ?_) (fun a7 => VIf_eq (fun a8 => ?_) (fun a8 => VIf_eq (fun a9 => ?_) (fun a9 => VIf_eq (fun a10 => ?_) (fun a10 => ?_))))))))))
  · exact ⟨_, rfl, RF 1 (by omega) ⟨_, rfl, WH 3 (by omega) (gi ⟨_, _, rfl, by (simp only [Nat.add_zero] at a1 ⊢; simp [fStepE, fStep, a1])⟩)⟩⟩
  · obtain ⟨t0, t1⟩ := ht (.inl a2)
    refine ⟨_, rfl, RH 3 (by omega) ⟨_, rfl, t0, by omega, RA 2 2 _ t0 (by omega) rfl ⟨_, rfl, WH 4 (by omega) ⟨_, rfl, RH 4 (by omega) ?_⟩⟩⟩⟩
    rw [updN_same]
    exact VIf_dec (fun hx => gi ⟨_, _, rfl, by (simp only [Nat.add_zero] at a2 ⊢; simp [fStepE, fStep, a2, hx])⟩) (fun hx => gi ⟨_, _, rfl, by (simp only [Nat.add_zero] at a2 ⊢; simp [fStepE, fStep, a2, hx])⟩)
  · obtain ⟨t0, t1⟩ := ht (.inr a3)
    refine ⟨_, rfl, RH 3 (by omega) ⟨_, rfl, t0, by omega, _, rfl, RH 1 (by omega) ?_⟩⟩
    rw [add_mk', add_mk', Nat.zero_add, Nat.mul_one]
    exact CS _ (by omega) (fun hc => ⟨_, rfl, (VIf_true _ _).2 (gi ⟨_, _, rfl, by (simp only [Nat.add_zero] at a3 ⊢; simp [fStepE, fStep, a3, hc])⟩)⟩) (fun hc => ⟨_, rfl, (VIf_false _ _).2 (gi ⟨_, _, rfl, by (simp only [Nat.add_zero] at a3 ⊢; simp [fStepE, fStep, a3, hc])⟩)⟩)
  · refine ⟨_, rfl, _, rfl, RH 3 (by omega) ⟨_, rfl, RH 4 (by omega) ?_⟩⟩
    rw [add_mk', Nat.zero_add]
    exact CS 1 (by omega) (fun hc => ⟨_, rfl, gi ⟨_, _, rfl, by (simp only [Nat.add_zero] at a4 ⊢; simp [fStepE, fStep, a4, hc])⟩⟩) (fun hc => ⟨_, rfl, gi ⟨_, _, rfl, by (simp only [Nat.add_zero] at a4 ⊢; simp [fStepE, fStep, a4, hc])⟩⟩)
  · refine ⟨_, rfl, _, rfl, RH 3 (by omega) ⟨_, rfl, RH 1 (by omega) ?_⟩⟩
    rw [add_mk', Nat.zero_add]
    exact CS 1 (by omega) (fun hc => ⟨_, rfl, _, rfl, rfl, rfl, WD (fin (e := 0) (by (simp only [Nat.add_zero] at a5 ⊢; simp [fStepE, fStep, a5, hc])))⟩) (fun hc => ⟨_, rfl, _, rfl, rfl, rfl, WD (fin (e := 0) (by (simp only [Nat.add_zero] at a5 ⊢; simp [fStepE, fStep, a5, hc])))⟩)
  · exact ⟨_, rfl, RF 0 (by omega) ⟨_, rfl, WH 2 (by omega) (gi ⟨_, _, rfl, by (simp only [Nat.add_zero] at a6 ⊢; simp [fStepE, fStep, a6])⟩)⟩⟩
  · exact ⟨_, rfl, RF 1 (by omega) ⟨_, rfl, WH 3 (by omega) (gi ⟨_, _, rfl, by (simp only [Nat.add_zero] at a7 ⊢; simp [fStepE, fStep, a7])⟩)⟩⟩
  · obtain ⟨t0, t1⟩ := hdd a8
    refine ⟨_, rfl, RH 2 (by omega) ⟨_, rfl, t0, by omega, RA 2 2 _ t0 (by omega) rfl ⟨_, rfl, WH 4 (by omega) ?_⟩⟩⟩
    refine join_b (h := ⟨E f (updN h (q * 5 + 4) (f (2 + (h (q * 5 + 2)).toNat))), ro⟩) (decide (h (q * 5 + 2) = h (q * 5 + 3) ∧ f (2 + (h (q * 5 + 2)).toNat) < 0)) ⟨_, rfl, RH 2 (by omega) ⟨_, rfl, RH 3 (by omega) ?_⟩⟩ ?_
    · rw [ne24, ne34]
      refine VIf_eq (fun he => ⟨_, rfl, RH 4 (by omega) (gi ⟨rfl, ?_⟩)⟩) (fun he => gi ⟨rfl, (decide_eq_false (fun h => he h.1)).symm⟩)
      rw [updN_same]
      exact decide_eq_decide.2 ⟨fun h => ⟨he, h⟩, fun h => h.2⟩
    · simp only [f21_J1, add_mk', show 0 + (q : Int).toNat * 5 = q * 5 by simp]
      refine VIf_dec (fun hc => ⟨_, rfl, rfl, rfl, WD (fin (e := 0) (by
        have hc2 := hc.2
        rw [hc.1] at hc2
        simp only [Nat.add_zero] at a8 ⊢
        simp [fStepE, fStep, a8, hc.1, hc2]))⟩) (fun hc => ⟨_, rfl, ?_⟩)
      have r2 := fun {K : Int → Prop} hK => RH (f := f) (h := updN h (q * 5 + 4) (f (2 + (h (q * 5 + 2)).toNat))) (K := K) 2 (by omega) hK
      have r3 := fun {K : Int → Prop} hK => RH (f := f) (h := updN h (q * 5 + 4) (f (2 + (h (q * 5 + 2)).toNat))) (K := K) 3 (by omega) hK
      simp only [add_mk'] at r2 r3
      refine r2 ⟨_, rfl, r3 ?_⟩
      rw [ne24, ne34]
      exact VIf_ne (fun he => gi ⟨_, _, rfl, by (simp only [Nat.add_zero] at a8 ⊢; simp [fStepE, fStep, a8, hc, he])⟩) (fun he => gi ⟨_, _, rfl, by
        have hc2 : ¬ f (2 + (h (q * 5 + 3)).toNat) < 0 := fun hh => hc ⟨he, by rw [he]; exact hh⟩
        simp only [Nat.add_zero] at a8 ⊢
        simp [fStepE, fStep, a8, he, hc2]⟩)
  · refine ⟨_, rfl, _, rfl, RH 3 (by omega) ⟨_, rfl, RH 4 (by omega) ?_⟩⟩
    rw [add_mk', Nat.zero_add]
    exact CS 1 (by omega) (fun hc => ⟨_, rfl, gi ⟨_, _, rfl, by (simp only [Nat.add_zero] at a9 ⊢; simp [fStepE, fStep, a9, hc])⟩⟩) (fun hc => ⟨_, rfl, gi ⟨_, _, rfl, by (simp only [Nat.add_zero] at a9 ⊢; simp [fStepE, fStep, a9, hc])⟩⟩)
  · refine ⟨_, rfl, _, rfl, RH 2 (by omega) ⟨_, rfl, RH 4 (by omega) ?_⟩⟩
    rw [add_mk', Nat.zero_add]
    refine CS 0 (by omega) (fun hc => ⟨_, rfl, (VIf_true _ _).2 ?_⟩) (fun hc => ⟨_, rfl, (VIf_false _ _).2 (gi ⟨_, _, rfl, by (simp only [Nat.add_zero] at a10 ⊢; simp [fStepE, fStep, a10, hc])⟩)⟩)
    obtain ⟨t0, t1⟩ := hx a10 hc
    exact ⟨_, rfl, RH 4 (by omega) ⟨_, rfl, t0, by omega, RA 42 42 _ t0 (by omega) rfl ⟨_, rfl, rfl, rfl, WD (fin (e := 0) (by (simp only [Nat.add_zero] at a10 ⊢; simp [fStepE, fStep, a10, hc])))⟩⟩⟩
  · exact gi ⟨_, _, rfl, by (simp only [Nat.add_zero] at a0 a1 a2 a3 a4 a5 a6 a7 a8 a9 a10 ⊢; simp [fStepE, fStep, a0, a1, a2, a3, a4, a5, a6, a7, a8, a9, a10])⟩
theorem fq_at_c {p n : Nat} {q : Int} {f h : Nat → Int} {L own : List Ent} {ro : Addr → Option Value} {post : Value → H → Prop} (hs : FqAt p n f h L) (hL : ∀ e ∈ L, e ∈ own)
    (hk : post (.int .i64 (if 0 ≤ q ∧ q ≤ (n : Int) - 1 then h (q.toNat * 5) else 0)) ⟨own, ro⟩) : SemCall Tryd.prog 23 (List.toArray [.pointer (some (Addr.mk p 0 none)), .int .i64 q]) ⟨own, ro⟩ post := by
  obtain ⟨h1, h4, bh, c, c1, rfl⟩ := hs
  refine f23_call _ _ _ post ?_
  refine ⟨_, rfl, fq_rT hL ⟨⟨by dsimp only; omega, by dsimp only; omega⟩, within_c ⟨_, rfl, VIf_nb (fun hc => ?_) (fun hc => ⟨_, rfl, fq_rT hL ?_⟩)⟩⟩⟩
  · have hc := of_decide_eq_false hc
    rw [if_neg hc] at hk
    exact ret hk
  · have hc := of_decide_eq_true hc
    dsimp only at hc
    rw [if_pos hc] at hk
    refine ⟨_, rfl, hc.1, by dsimp only; omega, h (q.toNat * 5), ?_, ret hk⟩
    rw [add_mk', add_mk', add_mk', show 0 + q.toNat * 5 + 0 + 0 = q.toNat * 5 by omega]
    exact rd_ints _ (hL _ (.head _)) rfl rfl (rm_get _ (by omega))
end Go.Proofs.YtogbkgimpkaemaaDoor
