import Derived.Test.YtnecppjgcbhnaaaEngI
/- The engine, eleventh part: rows of things at blocks that are known. -/
namespace Go.Eng

theorem rd_row {α : Type} {f : α → List Value} {k : Nat} (hf : ∀ a, (f a).length = k) {own : List Ent} {ro : Addr → Option Value} {b o : Nat} {v : Value} {l : List α} {i j : Nat} {x : α} (e : Ent) (he : e ∈ own) (hid : e.id = some b) (hc : e.cells = l.flatMap f)
    (hx : l[i]? = some x) (ho : o = i * k + j) (hv : (f x)[j]? = some v) : H.rd ⟨own, ro⟩ (Addr.mk b o none) v := by
  refine rdo e he hid ?_
  have hj : j < k := by rw [← hf x]; exact (List.getElem?_eq_some_iff.1 hv).1
  rw [hc, ho, rows_get hf l i j hj, hx]
  exact hv

theorem rd_ints {own : List Ent} {ro : Addr → Option Value} {b o : Nat} {xs : List Int} {x : Int} (e : Ent) (he : e ∈ own) (hid : e.id = some b) (hc : e.cells = ints xs) (hx : xs[o]? = some x) : H.rd ⟨own, ro⟩ (Addr.mk b o none) (.int .i64 x) :=
  rdo e he hid (by rw [hc, ints_get, hx]; rfl)

theorem wr_rows {α : Type} {f : α → List Value} {k : Nat} (hf : ∀ a, (f a).length = k) {own : List Ent} {ro : Addr → Option Value} {b o : Nat} {vs : List Value} {K : H → Prop} {l : List α} {i j : Nat} {x : α} (A : List Ent) (e : Ent) (C : List Ent) (x' : α)
    (h1 : allOne vs) (hown : own = A ++ e :: C) (hid : e.id = some b) (hc : e.cells = l.flatMap f) (hx : l[i]? = some x) (ho : o = i * k + j) (hj : j + vs.length ≤ k) (he : f x' = spl (f x) j vs)
    (hk : K ⟨A ++ ⟨some b, (l.set i x').flatMap f, e.cap⟩ :: C, ro⟩) : H.wr ⟨own, ro⟩ (Addr.mk b o none) vs K := by
  have hi : i < l.length := (List.getElem?_eq_some_iff.1 hx).1
  have hle : i * k + k ≤ l.length * k := by rw [← Nat.succ_mul]; exact Nat.mul_le_mul_right _ (by omega)
  refine wro A e C h1 hown hid ?_ ?_
  · rw [hc, rows_length hf]; omega
  · rw [hc, ho, rows_spl hf l i j x x' hx hj he, hid]; exact hk

theorem wr_ints {own : List Ent} {ro : Addr → Option Value} {b o : Nat} {v : Int} {xs : List Int} {K : H → Prop} (A : List Ent) (e : Ent) (C : List Ent) (hown : own = A ++ e :: C) (hid : e.id = some b) (hc : e.cells = ints xs) (ho : o < xs.length)
    (hk : K ⟨A ++ ⟨some b, ints (xs.set o v), e.cap⟩ :: C, ro⟩) : H.wr ⟨own, ro⟩ (Addr.mk b o none) [.int .i64 v] K := by
  refine wro A e C ⟨rfl, trivial⟩ hown hid ?_ ?_
  · rw [hc]; simp; omega
  · rw [hc, ints_spl xs o v ho, hid]; exact hk

theorem repl_rows {α : Type} {f : α → List Value} (x : α) (n : Nat) : repl n (f x) = (List.replicate n x).flatMap f := by
  unfold repl
  induction n with
  | zero => rfl
  | succ n ih => rw [List.replicate_succ, List.replicate_succ, List.flatten_cons, List.flatMap_cons, ih]
theorem repl_ints (x : Int) (n : Nat) : repl n [Value.int .i64 x] = ints (List.replicate n x) := by
  rw [ints_flat]; exact repl_rows (f := fun n => [intV n]) x n

/-- a slice whose place is known reads its ints -/
theorem RdSl.at0 {own : List Ent} {ro : Addr → Option Value} {b n : Nat} {xs : List Int} (e : Ent) (he : e ∈ own) (hid : e.id = some b) (hc : e.cells = ints xs) (hn : n = xs.length) : RdSl ⟨own, ro⟩ ⟨some (Addr.mk b 0 none), n, n⟩ (ints xs) := by
  subst hn
  have := RdSl.row (own := own) (ro := ro) (n := xs.length) he hid hc
  rw [ints_length] at this
  exact this

theorem OwnsSl.at0 {b n c : Nat} {vs : List Value} (sz : Nat) (hn : vs.length = n * sz) (hc : n * sz ≤ c) (hm : n ≤ maxLen) : OwnsSl sz ⟨some (Addr.mk b 0 none), n, n⟩ ⟨some b, vs, c⟩ vs :=
  .inr ⟨b, 0, rfl, rfl, by simp [hn], by simpa using hc, Nat.le_refl _, hm, rfl⟩

/-- an int of a slice that is owned, set -/
theorem wr_at {s : SV} {xs : List Int} {i v : Int} {own : List Ent} {ro : Addr → Option Value} {K : H → Prop} (A : List Ent) (e : Ent) (C : List Ent) (hown : own = A ++ e :: C) (ho : OwnsSl 1 s e (ints xs)) (h0 : 0 ≤ i) (h1 : i < ((s.len : Nat) : Int))
    (hk : ∀ e', OwnsSl 1 s e' (ints (xs.set i.toNat v)) → e'.id = e.id → K ⟨A ++ e' :: C, ro⟩) : ∃ b : Addr, s.a = some b ∧ 0 ≤ i ∧ i < ((s.len : Nat) : Int) ∧ H.wr ⟨own, ro⟩ (Addr.add b (i.toNat * 1)) [.int .i64 v] K := by
  have hl := ho.sl_len
  rw [ints_length] at hl
  have hr : RdSl ⟨own, ro⟩ s (ints xs) := RdSl.of_own (e := e) (by subst hown; simp) ho
  obtain ⟨b, hb⟩ := hr.addr (by rw [ints_length]; omega)
  exact ⟨b, hb, h0, h1, wr_int A e C hown ho (by omega) hb hk⟩

theorem pm {α : Type} {x : α} {L T : List α} (A C : List α) (hT : T = A ++ x :: C) (h : L.Perm (A ++ C)) : (x :: L).Perm T := by
  subst hT
  exact (List.Perm.cons x h).trans List.perm_middle.symm
theorem Gh.arr {own X Y : List Ent} {ro : Addr → Option Value} (h : Y.Perm X) : Gh ⟨own ++ X, ro⟩ ⟨own ++ Y, ro⟩ := Gh.perm (List.Perm.append_left _ h)
theorem Gh.ph {own : List Ent} (A C : List Ent) {ro : Addr → Option Value} : Gh ⟨own ++ (A ++ C), ro⟩ ⟨own ++ (A ++ ⟨none, [], 0⟩ :: C), ro⟩ := by
  have := Gh.phantom (own ++ A) C ro 0
  simpa using this
end Go.Eng
namespace Go.Eng
/-- what a call does to one thing, wherever that stands: any answer, and more that is only read -/
theorem lift3 {P : Program} {f : FuncId} {args : Array Value} {L own : List Ent} {ro : Addr → Option Value} {Q : Value → List Ent → (Addr → Option Value) → Prop} {post : Value → H → Prop} (A C : List Ent) (hown : own = A ++ (L ++ C))
    (loc : ∀ post' : Value → H → Prop, (∀ v L' ro', (∀ a v, ro a = some v → ro' a = some v) → Q v L' ro' → post' v ⟨L', ro'⟩) → SemCall P f args ⟨L, ro⟩ post')
    (hk : ∀ v L' ro', (∀ a v, ro a = some v → ro' a = some v) → Q v L' ro' → post v ⟨A ++ (L' ++ C), ro'⟩) : SemCall P f args ⟨own, ro⟩ post := by
  subst hown
  refine SemCall.frame (loc (fun u h => ∃ L' ro', h = ⟨L', ro'⟩ ∧ Q u L' ro') (fun v L' ro' _ h => ⟨L', ro', rfl, h⟩)) ?_
  rintro u L' ro' ⟨L'', ro'', h1, h2⟩ hm
  cases h1
  exact hk _ _ _ hm h2
/-- rows that are only read are not owned -/
theorem SemCall.apart {P : Program} {f : FuncId} {args : Array Value} {h : H} {post : Value → H → Prop} (hx : (∀ a v, h.ro a = some v → ∀ e ∈ h.own, e.id ≠ some a.block) → SemCall P f args h post) : SemCall P f args h post :=
  fun w hw => hx hw.ap w hw
/-- what a slice reads of rows that are only read -/
theorem RdSl.ro {own : List Ent} {ro : Addr → Option Value} {s : SV} {xs : List Value} (r : RdSl ⟨[], ro⟩ s xs) : RdSl ⟨own, ro⟩ s xs := r.mono (by simp) (fun _ _ h => h)
theorem RdSl.up {own own2 : List Ent} {ro ro2 : Addr → Option Value} {s : SV} {xs : List Value} (r : RdSl ⟨own, ro⟩ s xs) (h : ∀ e ∈ own, e ∈ own2) (h2 : ∀ a v, ro a = some v → ro2 a = some v) : RdSl ⟨own2, ro2⟩ s xs := r.mono h h2
theorem frozen_mono {e : Ent} {ro : Addr → Option Value} (hro : ∀ a v, ro a = some v → e.id ≠ some a.block) : ∀ a v, ro a = some v → frozen e ro a = some v := by
  intro a v hv
  unfold frozen
  rw [if_neg (fun hc => hro a v hv hc.1)]
  exact hv
/-- a row that is frozen is read as before -/
theorem RdSl.frozen {e : Ent} {ro : Addr → Option Value} {s : SV} {xs : List Value} (ho : OwnsSl 1 s e xs) : RdSl ⟨[], Go.Eng.frozen e ro⟩ s xs := by
  rcases ho with ⟨h1, h2, _, _, _, rfl⟩ | ⟨b, off, h1, h2, h3, _, _, _, h7⟩
  · exact ⟨h2, fun _ => h2, fun b hb => (by rw [h1] at hb; cases hb)⟩
  · refine ⟨by rw [← h7, List.length_drop, h3]; omega, fun ha => (by rw [h1] at ha; cases ha), fun b' hb i v hv => ?_⟩
    rw [h1] at hb
    cases hb
    rw [add_mk']
    refine rdr ?_
    show (if e.id = some b ∧ (none : Option _) = none then e.cells[off + i]? else _) = some v
    rw [if_pos ⟨h2, rfl⟩, ← hv, ← h7, List.getElem?_drop]
end Go.Eng
namespace Go.Eng
theorem mem_set_cases {α : Type} {l : List α} {i : Nat} {x y : α} (h : y ∈ l.set i x) : y = x ∨ ∃ j, j ≠ i ∧ l[j]? = some y := by
  obtain ⟨j, hj⟩ := List.mem_iff_getElem?.1 h
  by_cases hij : i = j
  · subst hij
    rw [List.getElem?_set] at hj
    simp at hj
    exact .inl hj.2.symm
  · rw [List.getElem?_set_ne hij] at hj
    exact .inr ⟨j, fun h => hij h.symm, hj⟩
theorem set_cases {α : Type} {l : List α} {i j : Nat} {x y : α} (h : (l.set i x)[j]? = some y) : (j = i ∧ y = x) ∨ (j ≠ i ∧ l[j]? = some y) := by
  by_cases hij : i = j
  · subst hij
    rw [List.getElem?_set] at h
    simp at h
    exact .inl ⟨rfl, h.2.symm⟩
  · rw [List.getElem?_set_ne hij] at h
    exact .inr ⟨fun h => hij h.symm, h⟩
end Go.Eng
