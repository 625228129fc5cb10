import Derived.Test.YtnppmcgmmdcpiaaGreatDoorEngI
/- The engine, eleventh part: rows of things at blocks that are known. -/
namespace Go.Eng

theorem rd_row {α : Type} {f : α → List Value} {k : Nat} (hf : ∀ a, (f a).length = k) {own : List Ent} {ro : Addr → Option Value} {b o : Nat} {v : Value} {l : List α} {i j : Nat} {x : α} (e : Ent) (he : e ∈ own) (hid : e.aid = some b) (hc : e.cells = l.flatMap f)
    (hx : l[i]? = some x) (ho : o = i * k + j) (hv : (f x)[j]? = some v) : H.rd ⟨own, ro⟩ (Addr.mk b o none) v := by
  refine rdo e he hid ?_
  have hj : j < k := by rw [← hf x]; exact (List.getElem?_eq_some_iff.1 hv).1
  rw [hc, ho, rows_get hf l i j hj, hx]
  exact hv

theorem rd_ints {own : List Ent} {ro : Addr → Option Value} {b o : Nat} {xs : List Int} {x : Int} (e : Ent) (he : e ∈ own) (hid : e.aid = some b) (hc : e.cells = ints xs) (hx : xs[o]? = some x) : H.rd ⟨own, ro⟩ (Addr.mk b o none) (.int .i64 x) :=
  rdo e he hid (by rw [hc, ints_get, hx]; rfl)

theorem wr_rows {α : Type} {f : α → List Value} {k : Nat} (hf : ∀ a, (f a).length = k) {own : List Ent} {ro : Addr → Option Value} {b o : Nat} {vs : List Value} {K : H → Prop} {l : List α} {i j : Nat} {x : α} (A : List Ent) (e : Ent) (C : List Ent) (x' : α)
    (h1 : allOne vs) (hown : own = A ++ e :: C) (hid : e.aid = some b) (hc : e.cells = l.flatMap f) (hx : l[i]? = some x) (ho : o = i * k + j) (hj : j + vs.length ≤ k) (he : f x' = spl (f x) j vs)
    (hk : K ⟨A ++ ⟨some b, (l.set i x').flatMap f, e.cap⟩ :: C, ro⟩) : H.wr ⟨own, ro⟩ (Addr.mk b o none) vs K := by
  have hi : i < l.length := (List.getElem?_eq_some_iff.1 hx).1
  have hle : i * k + k ≤ l.length * k := by rw [← Nat.succ_mul]; exact Nat.mul_le_mul_right _ (by omega)
  refine wro A e C h1 hown hid ?_ ?_
  · rw [hc, rows_length hf]; omega
  · rw [hc, ho, rows_spl hf l i j x x' hx hj he, hid]; exact hk

theorem wr_ints {own : List Ent} {ro : Addr → Option Value} {b o : Nat} {v : Int} {xs : List Int} {K : H → Prop} (A : List Ent) (e : Ent) (C : List Ent) (hown : own = A ++ e :: C) (hid : e.aid = some b) (hc : e.cells = ints xs) (ho : o < xs.length)
    (hk : K ⟨A ++ ⟨some b, ints (xs.set o v), e.cap⟩ :: C, ro⟩) : H.wr ⟨own, ro⟩ (Addr.mk b o none) [.int .i64 v] K := by
  refine wro A e C ⟨rfl, trivial⟩ hown hid ?_ ?_
  · rw [hc]; simp; omega
  · rw [hc, ints_spl xs o v ho, hid]; exact hk

theorem repl_rows {α : Type} {f : α → List Value} (x : α) (n : Nat) : repl n (f x) = (List.replicate n x).flatMap f := by
  unfold repl
  induction n with
  | zero => rfl
  | succ n ih => rw [List.replicate_succ, List.replicate_succ, List.flatten_cons, List.flatMap_cons, ih]
theorem repl_ints (x : Int) (n : Nat) : repl n [Value.int .i64 x] = ints (List.replicate n x) := by
  rw [ints_flat]; exact repl_rows (f := fun n => [intV n]) x n

/-- a slice whose place is known reads its ints -/
theorem RdSl.at0 {own : List Ent} {ro : Addr → Option Value} {b n : Nat} {xs : List Int} (e : Ent) (he : e ∈ own) (hid : e.aid = some b) (hc : e.cells = ints xs) (hn : n = xs.length) : RdSl ⟨own, ro⟩ ⟨some (Addr.mk b 0 none), n, n⟩ (ints xs) := by
  subst hn
  have := RdSl.row (own := own) (ro := ro) (n := xs.length) he hid hc
  rw [ints_length] at this
  exact this

theorem OwnsSl.at0 {b n c : Nat} {vs : List Value} (sz : Nat) (hn : vs.length = n * sz) (hc : n * sz ≤ c) (hm : n ≤ maxLen) : OwnsSl sz ⟨some (Addr.mk b 0 none), n, n⟩ ⟨some b, vs, c⟩ vs :=
  .inr ⟨b, 0, rfl, rfl, by simp [hn], by simpa using hc, Nat.le_refl _, hm, rfl⟩

/-- an int of a slice that is owned, set -/
theorem wr_at {s : SV} {xs : List Int} {i v : Int} {own : List Ent} {ro : Addr → Option Value} {K : H → Prop} (A : List Ent) (e : Ent) (C : List Ent) (hown : own = A ++ e :: C) (ho : OwnsSl 1 s e (ints xs)) (h0 : 0 ≤ i) (h1 : i < ((s.len : Nat) : Int))
    (hk : ∀ e', OwnsSl 1 s e' (ints (xs.set i.toNat v)) → e'.id = e.id → K ⟨A ++ e' :: C, ro⟩) : ∃ b : Addr, s.a = some b ∧ 0 ≤ i ∧ i < ((s.len : Nat) : Int) ∧ H.wr ⟨own, ro⟩ (Addr.add b (i.toNat * 1)) [.int .i64 v] K := by
  have hl := ho.sl_len
  rw [ints_length] at hl
  have hr : RdSl ⟨own, ro⟩ s (ints xs) := RdSl.of_own (e := e) (by subst hown; simp) ho
  obtain ⟨b, hb⟩ := hr.addr (by rw [ints_length]; omega)
  exact ⟨b, hb, h0, h1, wr_int A e C hown ho (by omega) hb hk⟩

theorem pm {α : Type} {x : α} {L T : List α} (A C : List α) (hT : T = A ++ x :: C) (h : L.Perm (A ++ C)) : (x :: L).Perm T := by
  subst hT
  exact (List.Perm.cons x h).trans List.perm_middle.symm
theorem Gh.arr {own X Y : List Ent} {ro : Addr → Option Value} (h : Y.Perm X) : Gh ⟨own ++ X, ro⟩ ⟨own ++ Y, ro⟩ := Gh.perm (List.Perm.append_left _ h)
theorem Gh.ph {own : List Ent} (A C : List Ent) {ro : Addr → Option Value} : Gh ⟨own ++ (A ++ C), ro⟩ ⟨own ++ (A ++ ⟨none, [], 0⟩ :: C), ro⟩ := by
  have := Gh.phantom (own ++ A) C ro 0
  simpa using this
end Go.Eng
namespace Go.Eng
/-- what a call does to one thing, wherever that stands: any answer, and more that is only read -/
theorem lift3 {P : Program} {f : FuncId} {args : Array Value} {L own : List Ent} {ro : Addr → Option Value} {Q : Value → List Ent → (Addr → Option Value) → Prop} {post : Value → H → Prop} (A C : List Ent) (hown : own = A ++ (L ++ C))
    (loc : ∀ post' : Value → H → Prop, (∀ v L' ro', (∀ a v, ro a = some v → ro' a = some v) → Q v L' ro' → post' v ⟨L', ro'⟩) → SemCall P f args ⟨L, ro⟩ post')
    (hk : ∀ v L' ro', (∀ a v, ro a = some v → ro' a = some v) → Q v L' ro' → post v ⟨A ++ (L' ++ C), ro'⟩) : SemCall P f args ⟨own, ro⟩ post := by
  subst hown
  refine SemCall.frame (loc (fun u h => ∃ L' ro', h = ⟨L', ro'⟩ ∧ Q u L' ro') (fun v L' ro' _ h => ⟨L', ro', rfl, h⟩)) ?_
  rintro u L' ro' ⟨L'', ro'', h1, h2⟩ hm
  cases h1
  exact hk _ _ _ hm h2
/-- rows that are only read are not owned -/
theorem SemCall.apart {P : Program} {f : FuncId} {args : Array Value} {h : H} {post : Value → H → Prop} (hx : (∀ a v, h.ro a = some v → ∀ e ∈ h.own, e.id ≠ some a.block) → SemCall P f args h post) : SemCall P f args h post :=
  fun w hw => hx hw.ap w hw
/-- what a slice reads of rows that are only read -/
theorem RdSl.ro {own : List Ent} {ro : Addr → Option Value} {s : SV} {xs : List Value} (r : RdSl ⟨[], ro⟩ s xs) : RdSl ⟨own, ro⟩ s xs := r.mono (by simp) (fun _ _ h => h)
theorem RdSl.up {own own2 : List Ent} {ro ro2 : Addr → Option Value} {s : SV} {xs : List Value} (r : RdSl ⟨own, ro⟩ s xs) (h : ∀ e ∈ own, e ∈ own2) (h2 : ∀ a v, ro a = some v → ro2 a = some v) : RdSl ⟨own2, ro2⟩ s xs := r.mono h h2
theorem frozen_mono {e : Ent} {ro : Addr → Option Value} (hro : ∀ a v, ro a = some v → e.id ≠ some a.block) : ∀ a v, ro a = some v → frozen e ro a = some v := by
  intro a v hv
  unfold frozen
  rw [if_neg (fun hc => hro a v hv (Ent.blk_of_id hc.1))]
  exact hv
/-- a row that is frozen is read as before -/
theorem RdSl.frozen {e : Ent} {ro : Addr → Option Value} {s : SV} {xs : List Value} (ho : OwnsSl 1 s e xs) : RdSl ⟨[], Go.Eng.frozen e ro⟩ s xs := by
  rcases ho with ⟨h1, h2, _, _, _, rfl⟩ | ⟨b, off, h1, h2, h3, _, _, _, h7⟩
  · exact ⟨h2, fun _ => h2, fun b hb => (by rw [h1] at hb; cases hb)⟩
  · refine ⟨by rw [← h7, List.length_drop, h3]; omega, fun ha => (by rw [h1] at ha; cases ha), fun b' hb i v hv => ?_⟩
    rw [h1] at hb
    cases hb
    rw [add_mk']
    refine rdr ?_
    show (if e.aid = some b ∧ (none : Option _) = none then e.cells[off + i]? else _) = some v
    rw [if_pos ⟨h2, rfl⟩, ← hv, ← h7, List.getElem?_drop]
end Go.Eng
namespace Go.Eng
theorem mem_set_cases {α : Type} {l : List α} {i : Nat} {x y : α} (h : y ∈ l.set i x) : y = x ∨ ∃ j, j ≠ i ∧ l[j]? = some y := by
  obtain ⟨j, hj⟩ := List.mem_iff_getElem?.1 h
  by_cases hij : i = j
  · subst hij
    rw [List.getElem?_set] at hj
    simp at hj
    exact .inl hj.2.symm
  · rw [List.getElem?_set_ne hij] at hj
    exact .inr ⟨j, fun h => hij h.symm, hj⟩
theorem set_cases {α : Type} {l : List α} {i j : Nat} {x y : α} (h : (l.set i x)[j]? = some y) : (j = i ∧ y = x) ∨ (j ≠ i ∧ l[j]? = some y) := by
  by_cases hij : i = j
  · subst hij
    rw [List.getElem?_set] at h
    simp at h
    exact .inl ⟨rfl, h.2.symm⟩
  · rw [List.getElem?_set_ne hij] at h
    exact .inr ⟨fun h => hij h.symm, h⟩
end Go.Eng
namespace Go.Eng
theorem app_cases {α : Type} {l : List α} {a x : α} {d : Nat} (h : (l ++ [a])[d]? = some x) : (d < l.length ∧ l[d]? = some x) ∨ (d = l.length ∧ x = a) := by
  by_cases hd : d < l.length
  · rw [List.getElem?_append_left hd] at h; exact .inl ⟨hd, h⟩
  · rw [List.getElem?_append_right (by omega)] at h
    have : d - l.length = 0 := by
      by_cases h0 : d - l.length = 0
      · exact h0
      · rw [List.getElem?_eq_none (by simp; omega)] at h; cases h
    rw [this] at h
    exact .inr ⟨by omega, by simpa using h.symm⟩
end Go.Eng
namespace Go.Eng
def svV (s : SV) : Value := .slice s.a s.len s.cap
theorem svs_flat {α : Type} (f : α → Value) (l : List α) : l.map f = l.flatMap fun x => [f x] := by
  induction l with
  | nil => rfl
  | cons x l ih => simp only [List.map_cons, List.flatMap_cons, List.singleton_append, ih]
/-- one thing of a slice that is read -/
theorem RdSl.idxM {α : Type} {f : α → Value} {h : H} {s : SV} {xs : List α} (r : RdSl h s (xs.map f)) {i : Int} (h0 : 0 ≤ i) (h1 : i < ((s.len : Nat) : Int)) {K : α → Prop} (hK : ∀ x, xs[i.toNat]? = some x → K x) :
    ∃ b : Addr, s.a = some b ∧ 0 ≤ i ∧ i < ((s.len : Nat) : Int) ∧ ∃ x : α, H.rd h (Addr.add (Addr.add b (i.toNat * 1)) 0) (f x) ∧ K x := by
  have hl := r.len
  rw [List.length_map] at hl
  have hx : i.toNat < xs.length := by omega
  obtain ⟨b, hb⟩ := r.addr (by rw [List.length_map]; omega)
  refine ⟨b, hb, h0, h1, xs[i.toNat], ?_, hK _ (List.getElem?_eq_getElem hx)⟩
  have := r.get hb (i := i.toNat) (v := f xs[i.toNat]) (by rw [List.getElem?_map, List.getElem?_eq_getElem hx]; rfl)
  simpa [Addr.add_zero'] using this
/-- one thing of a slice that is owned, set -/
theorem wr_atM {α : Type} {f : α → Value} (hf : ∀ x, (f x).oneCell' = true) {s : SV} {xs : List α} {i : Int} {v : α} {own : List Ent} {ro : Addr → Option Value} {K : H → Prop} (A : List Ent) (e : Ent) (C : List Ent) (hown : own = A ++ e :: C) (ho : OwnsSl 1 s e (xs.map f)) (h0 : 0 ≤ i) (h1 : i < ((s.len : Nat) : Int))
    (hk : ∀ e', OwnsSl 1 s e' ((xs.set i.toNat v).map f) → e'.id = e.id → K ⟨A ++ e' :: C, ro⟩) : ∃ b : Addr, s.a = some b ∧ 0 ≤ i ∧ i < ((s.len : Nat) : Int) ∧ H.wr ⟨own, ro⟩ (Addr.add b (i.toNat * 1)) [f v] K := by
  have hl := ho.sl_len
  rw [List.length_map] at hl
  have hr : RdSl ⟨own, ro⟩ s (xs.map f) := RdSl.of_own (e := e) (by subst hown; simp) ho
  obtain ⟨b, hb⟩ := hr.addr (by rw [List.length_map]; omega)
  refine ⟨b, hb, h0, h1, ?_⟩
  rw [svs_flat] at ho
  have := wr_row (f := fun x => [f x]) (sz := 1) (x' := v) (ro := ro) (K := K) (vs := [f v]) (fun _ => rfl) (by decide) A e C hown ho (List.getElem?_eq_getElem (show i.toNat < xs.length by omega)) hb (j := 0) (by simp) rfl ⟨hf v, trivial⟩ (fun e' h1 h2 => hk e' (by rw [svs_flat]; exact h1) h2)
  rwa [add_zero'] at this
/-- slices, each of a row that is owned -/
def OwEach (xs : List Ent) (ss : List SV) (ls : List (List Int)) : Prop := ss.length = ls.length ∧ ∀ (j : Nat) s l, ss[j]? = some s → ls[j]? = some l → ∃ e ∈ xs, OwnsSl 1 s e (ints l)
theorem OwEach.up {xs : List Ent} {ss : List SV} {ls : List (List Int)} (h : OwEach xs ss ls) (ys : List Ent) : OwEach (xs ++ ys) ss ls := ⟨h.1, fun j s l a b => by obtain ⟨e, h1, h2⟩ := h.2 j s l a b; exact ⟨e, by simp [h1], h2⟩⟩
theorem OwEach.app {xs : List Ent} {ss : List SV} {ls : List (List Int)} (h : OwEach xs ss ls) {s : SV} {l : List Int} {e : Ent} (hr : OwnsSl 1 s e (ints l)) : OwEach (xs ++ [e]) (ss ++ [s]) (ls ++ [l]) := by
  refine ⟨by simp [h.1], fun j s' l' a b => ?_⟩
  rcases app_cases a with ⟨a1, a2⟩ | ⟨a1, rfl⟩ <;> rcases app_cases b with ⟨b1, b2⟩ | ⟨b1, rfl⟩
  · obtain ⟨e', h1, h2⟩ := h.2 j s' l' a2 b2
    exact ⟨e', by simp [h1], h2⟩
  · have := h.1; omega
  · have := h.1; omega
  · exact ⟨e, by simp, hr⟩
theorem OwEach.set {xs : List Ent} {ss : List SV} {ls : List (List Int)} (h : OwEach xs ss ls) {p : Nat} {s : SV} {l : List Int} {e : Ent} (hr : OwnsSl 1 s e (ints l)) : OwEach (xs ++ [e]) (ss.set p s) (ls.set p l) := by
  refine ⟨by simp [h.1], fun j s' l' a b => ?_⟩
  rcases set_cases a with ⟨a1, rfl⟩ | ⟨a1, a2⟩ <;> rcases set_cases b with ⟨b1, rfl⟩ | ⟨b1, b2⟩
  · exact ⟨e, by simp, hr⟩
  · exact absurd a1 b1
  · exact absurd b1 a1
  · obtain ⟨e', h1, h2⟩ := h.2 j s' l' a2 b2
    exact ⟨e', by simp [h1], h2⟩
end Go.Eng
namespace Go.Eng
/-- a cell of a row of ints -/
def gI (m : List Int) (k : Nat) : Int := (m[k]?).getD 0
def splI (m : List Int) (o : Nat) (vs : List Int) : List Int := m.take o ++ (vs ++ m.drop (o + vs.length))
theorem ints_splI (m : List Int) (o : Nat) (vs : List Int) : spl (ints m) o (ints vs) = ints (splI m o vs) := by
  simp [spl, splI, ints, List.map_append, List.map_take, List.map_drop]
theorem splI_length {m : List Int} {o : Nat} {vs : List Int} (h : o + vs.length ≤ m.length) : (splI m o vs).length = m.length := by
  simp only [splI, List.length_append, List.length_take, List.length_drop]; omega
theorem gI_spl {m : List Int} {o : Nat} {vs : List Int} (h : o + vs.length ≤ m.length) (k : Nat) : gI (splI m o vs) k = if o ≤ k ∧ k < o + vs.length then gI vs (k - o) else gI m k := by
  unfold gI splI
  by_cases h1 : k < o
  · rw [if_neg (by omega), List.getElem?_append_left (by simp; omega), List.getElem?_take_of_lt h1]
  · rw [List.getElem?_append_right (by simp; omega)]
    have : k - (m.take o).length = k - o := by simp; omega
    rw [this]
    by_cases h2 : k < o + vs.length
    · rw [if_pos (by omega), List.getElem?_append_left (by omega)]
    · rw [if_neg (by omega), List.getElem?_append_right (by omega), List.getElem?_drop]
      congr 2; omega
theorem rd_gI {own : List Ent} {ro : Addr → Option Value} {b o : Nat} {m : List Int} (e : Ent) (he : e ∈ own) (hid : e.aid = some b) (hc : e.cells = ints m) (ho : o < m.length) : H.rd ⟨own, ro⟩ (Addr.mk b o none) (.int .i64 (gI m o)) := by
  refine rdo e he hid ?_
  rw [hc, ints_get, gI, List.getElem?_eq_getElem ho]
  rfl
theorem wr_gI {own : List Ent} {ro : Addr → Option Value} {b o : Nat} {vs m : List Int} {K : H → Prop} (A : List Ent) (e : Ent) (C : List Ent) (hown : own = A ++ e :: C) (hid : e.aid = some b) (hc : e.cells = ints m) (ho : o + vs.length ≤ m.length)
    (hk : K ⟨A ++ ⟨some b, ints (splI m o vs), e.cap⟩ :: C, ro⟩) : H.wr ⟨own, ro⟩ (Addr.mk b o none) (ints vs) K := by
  refine wro A e C (allOne_ints vs) hown hid ?_ ?_
  · rw [hc]; simpa using ho
  · rw [hc, ints_splI, hid]; exact hk
end Go.Eng
