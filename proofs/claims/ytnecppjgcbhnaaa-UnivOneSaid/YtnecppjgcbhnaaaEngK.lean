import Derived.Test.YtnecppjgcbhnaaaEngI
/- The engine, eleventh part: rows of things at blocks that are known. -/
namespace Go.Eng

theorem rd_row {α : Type} {f : α → List Value} {k : Nat} (hf : ∀ a, (f a).length = k) {own : List Ent} {ro : Addr → Option Value} {b o : Nat} {v : Value} {l : List α} {i j : Nat} {x : α} (e : Ent) (he : e ∈ own) (hid : e.id = some b) (hc : e.cells = l.flatMap f)
    (hx : l[i]? = some x) (ho : o = i * k + j) (hv : (f x)[j]? = some v) : H.rd ⟨own, ro⟩ (Addr.mk b o none) v := by
  refine rdo e he hid ?_
  have hj : j < k := by rw [← hf x]; exact (List.getElem?_eq_some_iff.1 hv).1
  rw [hc, ho, rows_get hf l i j hj, hx]
  exact hv

theorem rd_ints {own : List Ent} {ro : Addr → Option Value} {b o : Nat} {xs : List Int} {x : Int} (e : Ent) (he : e ∈ own) (hid : e.id = some b) (hc : e.cells = ints xs) (hx : xs[o]? = some x) : H.rd ⟨own, ro⟩ (Addr.mk b o none) (.int .i64 x) :=
  rdo e he hid (by rw [hc, ints_get, hx]; rfl)

theorem wr_rows {α : Type} {f : α → List Value} {k : Nat} (hf : ∀ a, (f a).length = k) {own : List Ent} {ro : Addr → Option Value} {b o : Nat} {vs : List Value} {K : H → Prop} {l : List α} {i j : Nat} {x : α} (A : List Ent) (e : Ent) (C : List Ent) (x' : α)
    (h1 : allOne vs) (hown : own = A ++ e :: C) (hid : e.id = some b) (hc : e.cells = l.flatMap f) (hx : l[i]? = some x) (ho : o = i * k + j) (hj : j + vs.length ≤ k) (he : f x' = spl (f x) j vs)
    (hk : K ⟨A ++ ⟨some b, (l.set i x').flatMap f, e.cap⟩ :: C, ro⟩) : H.wr ⟨own, ro⟩ (Addr.mk b o none) vs K := by
  have hi : i < l.length := (List.getElem?_eq_some_iff.1 hx).1
  have hle : i * k + k ≤ l.length * k := by rw [← Nat.succ_mul]; exact Nat.mul_le_mul_right _ (by omega)
  refine wro A e C h1 hown hid ?_ ?_
  · rw [hc, rows_length hf]; omega
  · rw [hc, ho, rows_spl hf l i j x x' hx hj he, hid]; exact hk

theorem wr_ints {own : List Ent} {ro : Addr → Option Value} {b o : Nat} {v : Int} {xs : List Int} {K : H → Prop} (A : List Ent) (e : Ent) (C : List Ent) (hown : own = A ++ e :: C) (hid : e.id = some b) (hc : e.cells = ints xs) (ho : o < xs.length)
    (hk : K ⟨A ++ ⟨some b, ints (xs.set o v), e.cap⟩ :: C, ro⟩) : H.wr ⟨own, ro⟩ (Addr.mk b o none) [.int .i64 v] K := by
  refine wro A e C ⟨rfl, trivial⟩ hown hid ?_ ?_
  · rw [hc]; simp; omega
  · rw [hc, ints_spl xs o v ho, hid]; exact hk

theorem repl_rows {α : Type} {f : α → List Value} (x : α) (n : Nat) : repl n (f x) = (List.replicate n x).flatMap f := by
  unfold repl
  induction n with
  | zero => rfl
  | succ n ih => rw [List.replicate_succ, List.replicate_succ, List.flatten_cons, List.flatMap_cons, ih]
theorem repl_ints (x : Int) (n : Nat) : repl n [Value.int .i64 x] = ints (List.replicate n x) := by
  rw [ints_flat]; exact repl_rows (f := fun n => [intV n]) x n

/-- a slice whose place is known reads its ints -/
theorem RdSl.at0 {own : List Ent} {ro : Addr → Option Value} {b n : Nat} {xs : List Int} (e : Ent) (he : e ∈ own) (hid : e.id = some b) (hc : e.cells = ints xs) (hn : n = xs.length) : RdSl ⟨own, ro⟩ ⟨some (Addr.mk b 0 none), n, n⟩ (ints xs) := by
  subst hn
  have := RdSl.row (own := own) (ro := ro) (n := xs.length) he hid hc
  rw [ints_length] at this
  exact this

theorem OwnsSl.at0 {b n c : Nat} {vs : List Value} (sz : Nat) (hn : vs.length = n * sz) (hc : n * sz ≤ c) (hm : n ≤ maxLen) : OwnsSl sz ⟨some (Addr.mk b 0 none), n, n⟩ ⟨some b, vs, c⟩ vs :=
  .inr ⟨b, 0, rfl, rfl, by simp [hn], by simpa using hc, Nat.le_refl _, hm, rfl⟩

/-- an int of a slice that is owned, set -/
theorem wr_at {s : SV} {xs : List Int} {i v : Int} {own : List Ent} {ro : Addr → Option Value} {K : H → Prop} (A : List Ent) (e : Ent) (C : List Ent) (hown : own = A ++ e :: C) (ho : OwnsSl 1 s e (ints xs)) (h0 : 0 ≤ i) (h1 : i < ((s.len : Nat) : Int))
    (hk : ∀ e', OwnsSl 1 s e' (ints (xs.set i.toNat v)) → e'.id = e.id → K ⟨A ++ e' :: C, ro⟩) : ∃ b : Addr, s.a = some b ∧ 0 ≤ i ∧ i < ((s.len : Nat) : Int) ∧ H.wr ⟨own, ro⟩ (Addr.add b (i.toNat * 1)) [.int .i64 v] K := by
  have hl := ho.sl_len
  rw [ints_length] at hl
  have hr : RdSl ⟨own, ro⟩ s (ints xs) := RdSl.of_own (e := e) (by subst hown; simp) ho
  obtain ⟨b, hb⟩ := hr.addr (by rw [ints_length]; omega)
  exact ⟨b, hb, h0, h1, wr_int A e C hown ho (by omega) hb hk⟩

theorem pm {α : Type} {x : α} {L T : List α} (A C : List α) (hT : T = A ++ x :: C) (h : L.Perm (A ++ C)) : (x :: L).Perm T := by
  subst hT
  exact (List.Perm.cons x h).trans List.perm_middle.symm
theorem Gh.arr {own X Y : List Ent} {ro : Addr → Option Value} (h : Y.Perm X) : Gh ⟨own ++ X, ro⟩ ⟨own ++ Y, ro⟩ := Gh.perm (List.Perm.append_left _ h)
theorem Gh.ph {own : List Ent} (A C : List Ent) {ro : Addr → Option Value} : Gh ⟨own ++ (A ++ C), ro⟩ ⟨own ++ (A ++ ⟨none, [], 0⟩ :: C), ro⟩ := by
  have := Gh.phantom (own ++ A) C ro 0
  simpa using this
end Go.Eng
