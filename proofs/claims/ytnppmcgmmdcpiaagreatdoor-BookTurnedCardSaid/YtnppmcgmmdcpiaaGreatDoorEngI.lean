import Derived.Test.YtnppmcgmmdcpiaaGreatDoorEngH
/- The engine, ninth part: appends, clones, cuts. -/
namespace Go.Eng

/-- an element type of sz cells that may be grown -/
structure Grows (P : Program) (t e : TypeId) (sz : Nat) : Prop where
  u : P.underlying t = some (.slice e)
  c : P.cellsOf e = sz
  n : sz ≠ 0
  b : P.bytesOf e ≤ 100000
  z : ∃ z, (P.info? e).bind (·.zero) = some z ∧ z.cells.size = P.cellsOf e ∧ allOne z.cells.toList

theorem take_pre {α : Type} (l : List α) (n : Nat) : l.take n <+: l := List.take_prefix n l

theorem appVC_of {P : Program} {t e : TypeId} {sz : Nat} (g : Grows P t e sz) {s s2 : SV} {h : H} {K : SV → H → Prop} {ys : List Value} (hl : ys.length = s2.len * sz) (hr : rdS h s2.a ys) (h1 : allOne ys) (hn : s2.a = none → s2.len = 0)
    {A C : List Ent} {en : Ent} {xs : List Value} {ro : Addr → Option Value} (hg : Gh h ⟨A ++ en :: C, ro⟩) (ho : OwnsSl sz s en xs) (hb : s.len + s2.len ≤ 1000000000)
    (hk : ∀ (s' : SV) (en' : Ent), OwnsSl sz s' en' (xs ++ ys) → s'.len = s.len + s2.len → (s'.a = none ↔ s.a = none ∧ s2.len = 0) → (s.len + s2.len ≤ s.cap → s'.cap = s.cap ∧ s'.a = s.a ∧ en'.id = en.id ∧ en'.cap = en.cap) → (∀ b, en'.id = some b → en.id = some b ∨ (⟨A ++ en :: C, ro⟩ : H).fresh b) → K s' ⟨A ++ en' :: C, ro⟩) :
    appVC P t (.slice s.a s.len s.cap) (.slice s2.a s2.len s2.cap) h K := by
  unfold appVC
  simp only [g.u]
  obtain ⟨z, z1, z2, z3⟩ := g.z
  refine ⟨ys, by rw [g.c]; exact hl, hr, h1, hn, _, hg, A, en, C, xs, rfl, by rw [g.c]; exact ho, hb, by rw [g.c]; exact g.n, g.b, ⟨z, z1, z2⟩, ?_⟩
  intro s' en' o1 o2 o3 o4
  rw [g.c] at o1
  exact hk s' en' o1 o2 o3.1 o3.2 o4

/-- one element more -/
theorem app_row {P : Program} {t e : TypeId} {sz : Nat} (g : Grows P t e sz) {s : SV} {K : SV → H → Prop} {vs : List Value} (hl : vs.length = sz) (h1 : allOne vs)
    (A : List Ent) (en : Ent) (C : List Ent) {own : List Ent} {xs : List Value} {ro : Addr → Option Value} (hown : own = A ++ en :: C) (ho : OwnsSl sz s en xs) (hb : s.len + 1 ≤ 1000000000)
    (hk : ∀ (s' : SV) (en' : Ent), OwnsSl sz s' en' (xs ++ vs) → s'.len = s.len + 1 → K s' ⟨A ++ en' :: C, ro⟩) :
    H.new ⟨own, ro⟩ vs fun r h' => appVC P t (.slice s.a s.len s.cap) (.slice (some (Addr.mk r 0 none)) 1 1) h' K := by
  intro r _
  subst hown
  refine appVC_of (s2 := ⟨some (Addr.mk r 0 none), 1, 1⟩) g (ys := vs) (by simp [hl]) ?_ h1 (by simp) (Gh.drop (own' := A ++ en :: C) (by simp)) ho hb (fun s' en' o1 o2 _ _ _ => hk s' en' o1 o2)
  intro j v hv
  rw [add_mk']
  exact rdo ⟨some r, vs, vs.length⟩ (by simp) rfl (by simpa using hv)

/-- what a slice of elements of several cells reads -/
structure RdRows (h : H) (sz : Nat) (s : SV) (ys : List Value) : Prop where
  l : ys.length = s.len * sz
  n : s.a = none → s.len = 0
  r : ∀ b, s.a = some b → ∀ i v, ys[i]? = some v → H.rd h (Addr.add b i) v

theorem RdRows.rdS {h : H} {sz : Nat} {s : SV} {ys : List Value} (r : RdRows h sz s ys) : rdS h s.a ys := by
  unfold Eng.rdS
  cases ha : s.a with
  | none =>
    have := r.l
    rw [r.n ha] at this
    simp only [Nat.zero_mul] at this
    exact List.eq_nil_of_length_eq_zero this
  | some b => exact fun j v hv => r.r b ha j v hv

theorem RdSl.rows {h : H} {s : SV} {xs : List Value} (r : RdSl h s xs) : RdRows h 1 s xs := ⟨by rw [r.1]; omega, r.2.1, r.2.2⟩
theorem RdRows.sl {h : H} {s : SV} {xs : List Value} (r : RdRows h 1 s xs) : RdSl h s xs := ⟨by have := r.l; omega, r.n, r.r⟩

theorem RdRows.of_own {h : H} {sz : Nat} {s : SV} {e : Ent} {xs : List Value} (he : e ∈ h.own) (ho : OwnsSl sz s e xs) : RdRows h sz s xs := by
  rcases ho with ⟨h1, h2, _, _, _, rfl⟩ | ⟨b, off, h1, h2, h3, _, _, _, h7⟩
  · exact ⟨by simp [h2], fun _ => h2, fun b hb => (by rw [h1] at hb; cases hb)⟩
  · refine ⟨by rw [← h7, List.length_drop, h3]; omega, fun ha => (by rw [h1] at ha; cases ha), fun b' hb i v hv => ?_⟩
    rw [h1] at hb
    cases hb
    rw [add_mk']
    refine rdo e he h2 ?_
    rw [← h7, List.getElem?_drop] at hv
    exact hv

theorem H.rd.mono {h h2 : H} (hs : ∀ e ∈ h.own, e ∈ h2.own) (hr : ∀ a v, h.ro a = some v → h2.ro a = some v) {a : Addr} {v : Value} (h1 : H.rd h a v) : H.rd h2 a v := by
  refine ⟨h1.1, ?_⟩
  rcases h1.2 with ⟨e, he, h3⟩ | h3
  · exact .inl ⟨e, hs e he, h3⟩
  · exact .inr (hr _ _ h3)
theorem RdSl.mono {h h2 : H} {s : SV} {xs : List Value} (r : RdSl h s xs) (hs : ∀ e ∈ h.own, e ∈ h2.own) (hr : ∀ a v, h.ro a = some v → h2.ro a = some v) : RdSl h2 s xs :=
  ⟨r.1, r.2.1, fun b hb i v hv => (r.2.2 b hb i v hv).mono hs hr⟩
theorem RdRows.mono {h h2 : H} {sz : Nat} {s : SV} {xs : List Value} (r : RdRows h sz s xs) (hs : ∀ e ∈ h.own, e ∈ h2.own) (hr : ∀ a v, h.ro a = some v → h2.ro a = some v) : RdRows h2 sz s xs :=
  ⟨r.l, r.n, fun b hb i v hv => (r.r b hb i v hv).mono hs hr⟩

theorem OwnsSl.sl_len {s : SV} {e : Ent} {xs : List Value} (h : OwnsSl 1 s e xs) : s.len = xs.length := by have := h.len; omega
theorem OwnsSl.cap_le {sz : Nat} {s : SV} {e : Ent} {xs : List Value} (h : OwnsSl sz s e xs) : s.len ≤ s.cap := by
  rcases h with ⟨_, h2, h3, _⟩ | ⟨b, off, _, _, _, _, h5, _⟩
  · omega
  · exact h5

/-- a slice of a new row without cells -/
theorem OwnsSl.empty {sz r : Nat} : OwnsSl sz ⟨some (Addr.mk r 0 none), 0, 0⟩ ⟨some r, [], 0⟩ [] :=
  .inr ⟨r, 0, rfl, rfl, by simp, by simp, Nat.le_refl _, Nat.zero_le _, rfl⟩

/-- a copy of a slice, as slices.Clone makes it -/
theorem clone_vc {P : Program} {t e : TypeId} {sz : Nat} (g : Grows P t e sz) {s : SV} {own : List Ent} {ro : Addr → Option Value} {xs : List Value} {K : SV → H → Prop} (hr : RdRows ⟨own, ro⟩ sz s xs) (h1 : allOne xs) (hb : s.len ≤ 1000000000)
    (hk : ∀ (s' : SV) (e' : Ent), OwnsSl sz s' e' xs → s'.len = s.len → (s'.a = none ↔ s.len = 0 ∧ False) → K s' ⟨own ++ [e'], ro⟩) :
    H.new ⟨own, ro⟩ [] fun r h' => appVC P t (.slice (some (Addr.mk r 0 none)) 0 0) (.slice s.a s.len s.cap) h' K := by
  intro r hf
  refine appVC_of (s := ⟨some (Addr.mk r 0 none), 0, 0⟩) (A := own) (C := []) g hr.l ?_ h1 hr.n (Gh.refl _) OwnsSl.empty (by simpa using hb) (fun s' en' o1 o2 o3 _ _ => hk s' en' (by simpa using o1) (by simpa using o2) ?_)
  · refine (RdRows.mono hr ?_ ?_).rdS
    · intro e he; simp [he]
    · exact fun _ _ x => x
  · rw [o3]; simp

/-- a cut of a slice, as slices.Delete makes it -/
theorem delete_vc {P : Program} {t e : TypeId} {sz : Nat} (g : Grows P t e sz) {s : SV} (A : List Ent) (en : Ent) (C : List Ent) {ro : Addr → Option Value} {xs : List Value} {i j : Nat} {K : SV → H → Prop} (ho : OwnsSl sz s en xs) (h1 : allOne xs) (hij : i < j) (hj : j ≤ s.len) (hb : s.len ≤ 1000000000)
    (hk : ∀ (s' : SV) (en' : Ent), OwnsSl sz s' en' (xs.take (i * sz) ++ xs.drop (j * sz)) → s'.len = i + (s.len - j) → en'.id = en.id → K s' ⟨A ++ en' :: C, ro⟩) :
    appVC P t (.slice s.a i s.cap) (.slice (if s.cap = j then s.a else Option.map (fun z => Addr.add z (j * sz)) s.a) (s.len - j) (s.cap - j)) ⟨A ++ en :: C, ro⟩ fun x1 h2 =>
      0 ≤ ((s.len : Nat) : Int) ∧ ((s.len : Nat) : Int) ≤ ((x1.cap : Nat) : Int) ∧ 0 ≤ ((x1.len : Nat) : Int) ∧ ((x1.len : Nat) : Int) ≤ ((s.len : Nat) : Int) ∧
      clearVC P t (.slice (if x1.cap = (((x1.len : Nat) : Int)).toNat then x1.a else Option.map (fun z => Addr.add z ((((x1.len : Nat) : Int)).toNat * sz)) x1.a) ((((s.len : Nat) : Int)).toNat - (((x1.len : Nat) : Int)).toNat) (x1.cap - (((x1.len : Nat) : Int)).toNat)) h2 fun h3 => K x1 h3 := by
  have hlc := ho.cap_le
  have hxl := ho.len
  rcases ho with ⟨h1, h2, h3, _, _, rfl⟩ | ⟨b, off, ha, hid, hlen, hcap, _, hm, hd⟩
  · omega
  have hi : i * sz ≤ s.len * sz := Nat.mul_le_mul_right _ (by omega)
  have hjs : j * sz ≤ s.len * sz := Nat.mul_le_mul_right _ hj
  refine appVC_of (s := ⟨s.a, i, s.cap⟩) (s2 := ⟨if s.cap = j then s.a else Option.map (fun z => Addr.add z (j * sz)) s.a, s.len - j, s.cap - j⟩) g (ys := xs.drop (j * sz)) (xs := xs.take (i * sz)) (A := A) (C := C) (en := ⟨en.aid, en.cells.take (off + i * sz), en.cap⟩) ?_ ?_ ?_ ?_ (Gh.weaken A C ro en _ (List.take_prefix _ _) (fun hn => by rw [hid] at hn; cases hn)) (.inr ⟨b, off, ha, hid, ?_, hcap, by show i ≤ s.cap; omega, hm, ?_⟩) (by simp only; omega) ?_
  · simp only [List.length_drop, hxl, Nat.sub_mul]
  · unfold rdS
    split
    · rename_i hn
      split at hn
      · rw [ha] at hn; cases hn
      · rw [ha] at hn; cases hn
    · rename_i b' hb'
      intro k v hv
      split at hb'
      · rename_i hcj
        have : (xs.drop (j * sz)).length = 0 := by
          simp only [List.length_drop, hxl]
          have : s.len = j := by omega
          rw [this]; omega
        rw [List.eq_nil_of_length_eq_zero this] at hv
        simp at hv
      · rw [ha] at hb'
        simp only [Option.map_some, Option.some.injEq] at hb'
        subst hb'
        rw [add_mk', add_mk']
        refine rdo en (by simp) hid ?_
        rw [List.getElem?_drop, ← hd, List.getElem?_drop] at hv
        rw [← hv]
        congr 1
        omega
  · exact allOne_iff.2 fun v hv => allOne_iff.1 h1 v (List.mem_of_mem_drop hv)
  · intro hn
    simp only at hn
    split at hn
    · rw [ha] at hn; cases hn
    · rw [ha] at hn; cases hn
  · simp only [List.length_take, hlen]
    omega
  · simp only
    rw [List.drop_take, hd]
    congr 1
    omega
  · intro s' en' o1 o2 _ o4 _
    simp only at o2 o4
    obtain ⟨p1, p2, p3, p4⟩ := o4 (by omega)
    refine ⟨by omega, by omega, by omega, by omega, ?_⟩
    unfold clearVC
    simp only [g.u, Int.toNat_natCast]
    refine .inr ?_
    have hne : ¬ s'.cap = s'.len := by omega
    rw [if_neg hne, p2, ha]
    rcases o1 with ⟨q1, _⟩ | ⟨b', off', q1, q2, q3, q4, q5, q6, q7⟩
    · rw [p2, ha] at q1; cases q1
    have : (⟨b, off, none⟩ : Addr) = ⟨b', off', none⟩ := Option.some.inj (ha.symm.trans (p2.symm.trans q1))
    cases this
    simp only [Option.map_some]
    rw [add_mk']
    refine ⟨Addr.mk b (off + s'.len * sz) none, A, en', C, rfl, rfl, rfl, q2, ?_, ?_, ?_, ?_⟩
    · exact Nat.le_of_eq q3
    · rw [g.c, Nat.add_assoc, ← Nat.add_mul]
      exact Nat.le_trans (Nat.add_le_add_left (Nat.mul_le_mul_right _ (by omega)) _) q4
    · exact g.z
    · exact hk s' en' (.inr ⟨b, off, q1, q2, q3, q4, q5, q6, q7⟩) o2 (p3.trans (by rw [Ent.blk_of_id hid, Ent.blk_of_id (e := ⟨en.aid, en.cells.take (off + i * sz), en.cap⟩) hid]))

end Go.Eng
namespace Go.Eng

/-- a slice from its k-th element on -/
theorem OwnsSl.from {sz : Nat} {s : SV} {e : Ent} {xs : List Value} (h : OwnsSl sz s e xs) {k : Nat} (hk : k ≤ s.len) : OwnsSl sz ⟨if s.cap = k then s.a else Option.map (fun z => Addr.add z (k * sz)) s.a, s.len - k, s.cap - k⟩
    (if s.cap = k then ⟨e.aid, e.cells.take (e.cells.length - s.len * sz), e.cap⟩ else e) (xs.drop (k * sz)) := by
  have hl := h.len
  rcases h with ⟨h1, h2, h3, h4, h5, h6⟩ | ⟨b, off, h1, h2, h3, h4, h5, h6, h7⟩
  · have : k = 0 := by omega
    subst this
    rw [if_pos h3, if_pos h3]
    exact .inl ⟨h1, by simp [h2], by simp [h3], h4, by simp [h5], by simp [h6]⟩
  · by_cases hc : s.cap = k
    · rw [if_pos hc, if_pos hc]
      have hlk : s.len = k := by omega
      refine .inr ⟨b, off, h1, h2, ?_, ?_, by simp only; omega, by simp only; omega, ?_⟩
      · simp only [List.length_take, h3, hlk, Nat.sub_self, Nat.zero_mul]
        omega
      · simp only [hc, Nat.sub_self, Nat.zero_mul]; omega
      · simp only
        rw [List.drop_eq_nil_of_le (by simp only [List.length_take, h3]; omega), List.drop_eq_nil_of_le (by rw [hl, hlk]; exact Nat.le_refl _)]
    · rw [if_neg hc, if_neg hc]
      have hks : k * sz ≤ s.len * sz := Nat.mul_le_mul_right _ hk
      refine .inr ⟨b, off + k * sz, by rw [h1]; simp [add_mk'], h2, ?_, ?_, by simp only; omega, by simp only; omega, ?_⟩
      · simp only [h3, Nat.sub_mul]; omega
      · have : s.cap * sz = k * sz + (s.cap - k) * sz := by rw [← Nat.add_mul]; congr 1; omega
        simp only; omega
      · rw [← h7, List.drop_drop]

theorem Gh.from (A C : List Ent) (ro : Addr → Option Value) (e : Ent) (p : Prop) [Decidable p] (n : Nat) (hz : e.aid = none → e.cells = [] := by intro hn; cases hn) : Gh ⟨A ++ e :: C, ro⟩ ⟨A ++ (if p then ⟨e.aid, e.cells.take n, e.cap⟩ else e) :: C, ro⟩ := by
  by_cases hp : p
  · rw [if_pos hp]; exact Gh.weaken A C ro e _ (List.take_prefix _ _) hz
  · rw [if_neg hp]; exact Gh.refl _


/-- slices.Index -/
def goIdx : List Int → Int → Int
  | [], _ => -1
  | x :: xs, v => if v = x then 0 else if goIdx xs v < 0 then -1 else goIdx xs v + 1

theorem goIdx_ge : ∀ (xs : List Int) (v : Int), -1 ≤ goIdx xs v
  | [], _ => by simp [goIdx]
  | x :: xs, v => by
    have := goIdx_ge xs v
    unfold goIdx
    split
    · omega
    · split <;> omega
theorem goIdx_none : ∀ {xs : List Int} {v : Int}, v ∉ xs → goIdx xs v = -1
  | [], _, _ => rfl
  | x :: xs, v, h => by
    simp only [List.mem_cons, not_or] at h
    rw [goIdx, if_neg h.1, goIdx_none h.2]
    rfl
theorem goIdx_at : ∀ {xs : List Int} {v : Int} {k : Nat} (hk : k < xs.length), v ∉ xs.take k → v = xs[k] → goIdx xs v = k
  | x :: xs, v, 0, _, _, he => by simp at he; rw [goIdx, if_pos he]; rfl
  | x :: xs, v, k + 1, hk, hn, he => by
    simp only [List.take_succ_cons, List.mem_cons, not_or] at hn
    rw [goIdx, if_neg hn.1, goIdx_at (by simpa using hk) hn.2 (by simpa using he), if_neg (by omega)]
    simp
theorem goIdx_lt : ∀ {xs : List Int} {v : Int}, v ∈ xs → ∃ k : Nat, goIdx xs v = k ∧ k < xs.length ∧ xs[k]? = some v
  | x :: xs, v, h => by
    by_cases he : v = x
    · exact ⟨0, by rw [goIdx, if_pos he]; rfl, by simp, by simp [he]⟩
    · obtain ⟨k, h1, h2, h3⟩ := goIdx_lt (xs := xs) (v := v) (by simpa [he] using h)
      exact ⟨k + 1, by rw [goIdx, if_neg he, h1, if_neg (by omega)]; simp, by simpa using h2, by simpa using h3⟩
theorem goIdx_mem (xs : List Int) (v : Int) : decide (goIdx xs v ≥ 0) = decide (v ∈ xs) := by
  by_cases h : v ∈ xs
  · obtain ⟨k, h1, _, _⟩ := goIdx_lt h
    rw [h1, decide_eq_true h, decide_eq_true (by omega)]
  · rw [goIdx_none h, decide_eq_false h]; rfl

theorem allOne_ints : ∀ xs : List Int, allOne (ints xs)
  | [] => trivial
  | _ :: xs => ⟨rfl, allOne_ints xs⟩

theorem Addr.add_zero' (a : Addr) : a.add 0 = a := Go.Eng.add_zero' a
end Go.Eng
namespace Go.Eng
theorem nd {p : Prop} [Decidable p] (h : (!decide p) = true) : ¬ p := by simpa using h
theorem dd {p : Prop} [Decidable p] (h : ¬ (!decide p) = true) : p := by simpa using h
/-- a bool that was told -/
theorem VIf_not {p : Prop} [Decidable p] {A B : Prop} (h1 : ¬ p → A) (h2 : p → B) : VIf (!decide p) A B :=
  ⟨fun h => h1 (nd h), fun h => h2 (by simpa using h)⟩
theorem VIf_b {b : Bool} {A B : Prop} (h1 : b = true → A) (h2 : b = false → B) : VIf b A B := ⟨h1, h2⟩
theorem VIf_nb {b : Bool} {A B : Prop} (h1 : b = false → A) (h2 : b = true → B) : VIf (!b) A B := ⟨fun h => h1 (by simpa using h), fun h => h2 (by simpa using h)⟩
theorem VIf_eq {α : Type} [BEq α] [LawfulBEq α] {x y : α} {A B : Prop} (h1 : x = y → A) (h2 : x ≠ y → B) : VIf (x == y) A B := ⟨fun h => h1 (by simpa using h), fun h => h2 (by simpa using h)⟩
theorem VIf_ne {α : Type} [BEq α] [LawfulBEq α] {x y : α} {A B : Prop} (h1 : x ≠ y → A) (h2 : x = y → B) : VIf (x != y) A B := ⟨fun h => h1 (by simpa using h), fun h => h2 (by simpa using h)⟩
end Go.Eng
namespace Go.Eng
/-- a join at which a bool is known, the state as it is -/
theorem join_b {h : H} {A : (Bool → H → Prop) → Prop} {K : Bool → H → Prop} (b : Bool) (hA : A (fun x h' => h' = h ∧ x = b)) (hK : K b h) : ∃ R : Bool → H → Prop, A R ∧ ∀ (_ : F) (x : Bool) (h' : H), R x h' → K x h' :=
  ⟨_, hA, by rintro _ x h' ⟨rfl, rfl⟩; exact hK⟩
theorem join_and {p q : Prop} [Decidable p] [Decidable q] {h : H} {K : Bool → H → Prop} (hK : K (decide (p ∧ q)) h) :
    ∃ R : Bool → H → Prop, VIf (decide p) (∃ h2, Gh h h2 ∧ R (decide q) h2) (∃ h2, Gh h h2 ∧ R false h2) ∧ ∀ (_ : F) (x : Bool) (h' : H), R x h' → K x h' :=
  join_b _ (VIf_dec (fun hp => gi ⟨rfl, by simp [hp]⟩) (fun hp => gi ⟨rfl, by simp [hp]⟩)) hK
theorem join_or {p q : Prop} [Decidable p] [Decidable q] {h : H} {K : Bool → H → Prop} (hK : K (decide (p ∨ q)) h) :
    ∃ R : Bool → H → Prop, VIf (decide p) (∃ h2, Gh h h2 ∧ R true h2) (∃ h2, Gh h h2 ∧ R (decide q) h2) ∧ ∀ (_ : F) (x : Bool) (h' : H), R x h' → K x h' :=
  join_b _ (VIf_dec (fun hp => gi ⟨rfl, by simp [hp]⟩) (fun hp => gi ⟨rfl, by simp [hp]⟩)) hK
theorem eno_isNone (E : TypeId) (k : Int) : (eno E k).isNone = decide (k = 0) := by unfold eno; split <;> simp [*]
theorem VIf_err {E : TypeId} {k : Int} {A B : Prop} (h1 : k = 0 → A) (h2 : k ≠ 0 → B) : isIfaceV (errV (eno E k)) = true ∧ VIf (isNilV (errV (eno E k))) A B := by
  rw [isNilV_errV, eno_isNone]; exact ⟨isIfaceV_errV _, VIf_dec h1 h2⟩
theorem VIf_nerr {E : TypeId} {k : Int} {A B : Prop} (h1 : k ≠ 0 → A) (h2 : k = 0 → B) : isIfaceV (errV (eno E k)) = true ∧ VIf (!(isNilV (errV (eno E k)))) A B := by
  rw [isNilV_errV, eno_isNone]; exact ⟨isIfaceV_errV _, VIf_not h1 h2⟩
theorem VIf_nil {A B : Prop} (h1 : A) : isIfaceV (errV none) = true ∧ VIf (isNilV (errV none)) A B := ⟨rfl, fun _ => h1, fun h => by cases h⟩
theorem VIf_nnil {A B : Prop} (h1 : B) : isIfaceV (errV none) = true ∧ VIf (!(isNilV (errV none))) A B := ⟨rfl, (fun h => by cases h), fun _ => h1⟩
/-- an element of a slice that is read -/
theorem RdSl.idx {h : H} {s : SV} {xs : List Int} (r : RdSl h s (ints xs)) {i : Int} (h0 : 0 ≤ i) (h1 : i < ((s.len : Nat) : Int)) {K : Int → Prop} (hK : ∀ (x : Int), xs[i.toNat]? = some x → K x) :
    ∃ b : Addr, s.a = some b ∧ 0 ≤ i ∧ i < ((s.len : Nat) : Int) ∧ ∃ x : Int, H.rd h (Addr.add (Addr.add b (i.toNat * 1)) 0) (Value.int .i64 x) ∧ K x := by
  have hl := r.len
  rw [ints_length] at hl
  have hx : i.toNat < xs.length := by omega
  obtain ⟨b, hb⟩ := r.addr (by rw [ints_length]; omega)
  refine ⟨b, hb, h0, h1, xs[i.toNat], ?_, hK _ (List.getElem?_eq_getElem hx)⟩
  have := r.get hb (i := i.toNat) (v := .int .i64 xs[i.toNat]) (by rw [ints_get, List.getElem?_eq_getElem hx]; rfl)
  simpa [Addr.add_zero'] using this
end Go.Eng
namespace Go.Eng
/-- what a call does to one thing, wherever that stands -/
theorem lift {P : Program} {f : FuncId} {args : Array Value} {L own : List Ent} {ro : Addr → Option Value} {v : Value} {Q : List Ent → Prop} {post : Value → H → Prop} (A C : List Ent) (hown : own = A ++ (L ++ C))
    (loc : ∀ post' : Value → H → Prop, (∀ L', Q L' → post' v ⟨L', ro⟩) → SemCall P f args ⟨L, ro⟩ post') (hk : ∀ L', Q L' → post v ⟨A ++ (L' ++ C), ro⟩) : SemCall P f args ⟨own, ro⟩ post := by
  subst hown
  refine SemCall.frame (loc (fun u h => u = v ∧ ∃ L', h = ⟨L', ro⟩ ∧ Q L') (fun L' h => ⟨rfl, L', rfl, h⟩)) ?_
  rintro u L' ro' ⟨rfl, L'', h1, h2⟩ _
  cases h1
  exact hk _ h2
end Go.Eng
namespace Go.Eng
/-- a row of a slice of rows that is read -/
theorem RdRows.row {α : Type} {f : α → List Value} {sz : Nat} (hf : ∀ a, (f a).length = sz) (hz : 0 < sz) {h : H} {s : SV} {q : List α} (r : RdRows h sz s (q.flatMap f)) {i : Int} (h0 : 0 ≤ i) (h1 : i < ((s.len : Nat) : Int)) :
    ∃ (b : Addr) (x : α), s.a = some b ∧ q[i.toNat]? = some x ∧ ∀ j v, (f x)[j]? = some v → H.rd h (Addr.add (Addr.add b (i.toNat * sz)) j) v := by
  have hl := r.l
  rw [rows_length hf] at hl
  have hl : q.length = s.len := Nat.eq_of_mul_eq_mul_right hz hl
  cases ha : s.a with
  | none => have := r.n ha; omega
  | some b =>
    have hi : i.toNat < q.length := by omega
    refine ⟨b, q[i.toNat], rfl, List.getElem?_eq_getElem hi, fun j v hv => ?_⟩
    have hj : j < sz := by rw [← hf q[i.toNat]]; exact (List.getElem?_eq_some_iff.1 hv).1
    have := r.r b ha (i.toNat * sz + j) v (by rw [rows_get hf q _ _ hj, List.getElem?_eq_getElem hi]; exact hv)
    rw [add_add]
    exact this
theorem RdRows.len {α : Type} {f : α → List Value} {sz : Nat} (hf : ∀ a, (f a).length = sz) (hz : 0 < sz) {h : H} {s : SV} {q : List α} (r : RdRows h sz s (q.flatMap f)) : s.len = q.length := by
  have hl := r.l
  rw [rows_length hf] at hl
  exact (Nat.eq_of_mul_eq_mul_right hz hl).symm
theorem OwnsSl.rows_len {α : Type} {f : α → List Value} {sz : Nat} (hf : ∀ a, (f a).length = sz) (hz : 0 < sz) {s : SV} {e : Ent} {q : List α} (h : OwnsSl sz s e (q.flatMap f)) : s.len = q.length := by
  have hl := h.len
  rw [rows_length hf] at hl
  exact (Nat.eq_of_mul_eq_mul_right hz hl).symm
theorem flatMap_drop {α : Type} {f : α → List Value} {sz : Nat} (hf : ∀ a, (f a).length = sz) : ∀ (q : List α) (k : Nat), (q.flatMap f).drop (k * sz) = (q.drop k).flatMap f
  | [], k => by simp
  | x :: q, 0 => by simp
  | x :: q, k + 1 => by
    simp only [List.flatMap_cons, List.drop_succ_cons]
    rw [show (k + 1) * sz = (f x).length + k * sz by rw [hf, Nat.add_mul]; omega, List.drop_append, List.drop_eq_nil_of_le (by omega)]
    simpa using flatMap_drop hf q k
theorem flatMap_take {α : Type} {f : α → List Value} {sz : Nat} (hf : ∀ a, (f a).length = sz) : ∀ (q : List α) (k : Nat), (q.flatMap f).take (k * sz) = (q.take k).flatMap f
  | [], k => by simp
  | x :: q, 0 => by simp
  | x :: q, k + 1 => by
    simp only [List.flatMap_cons, List.take_succ_cons]
    rw [show (k + 1) * sz = (f x).length + k * sz by rw [hf, Nat.add_mul]; omega, List.take_append, List.take_of_length_le (by omega)]
    congr 1
    simpa using flatMap_take hf q k
theorem H.rd.own {h : H} {own : List Ent} {ro : Addr → Option Value} {a : Addr} {v : Value} (h1 : H.rd ⟨own, ro⟩ a v) (hs : ∀ e ∈ own, e ∈ h.own) (hr : h.ro = ro) : H.rd h a v := h1.mono hs (fun a v x => by rw [hr]; exact x)
end Go.Eng
namespace Go.Eng
/-- what a call does to one thing, wherever that stands: any answer -/
theorem lift2 {P : Program} {f : FuncId} {args : Array Value} {L own : List Ent} {ro : Addr → Option Value} {Q : Value → List Ent → Prop} {post : Value → H → Prop} (A C : List Ent) (hown : own = A ++ (L ++ C))
    (loc : ∀ post' : Value → H → Prop, (∀ v L', Q v L' → post' v ⟨L', ro⟩) → SemCall P f args ⟨L, ro⟩ post') (hk : ∀ v L', Q v L' → post v ⟨A ++ (L' ++ C), ro⟩) : SemCall P f args ⟨own, ro⟩ post := by
  subst hown
  refine SemCall.frame (loc (fun u h => ∃ L', h = ⟨L', ro⟩ ∧ Q u L') (fun v L' h => ⟨L', rfl, h⟩)) ?_
  rintro u L' ro' ⟨L'', h1, h2⟩ _
  cases h1
  exact hk _ _ h2
end Go.Eng

namespace Go.Eng
theorem RdSl.take {h : H} {s : SV} {xs : List Value} (r : RdSl h s xs) {n : Nat} (hn : n ≤ s.len) : RdSl h ⟨s.a, n, s.cap⟩ (xs.take n) := by
  have hl := r.1
  refine ⟨by simp; omega, fun ha => by have := r.2.1 ha; simp only; omega, fun b hb i v hv => r.2.2 b hb i v ?_⟩
  rw [List.getElem?_take] at hv
  split at hv
  · exact hv
  · cases hv
theorem RdSl.drop {h : H} {s : SV} {xs : List Value} (r : RdSl h s xs) {n : Nat} (hn : n ≤ s.len) (hc : s.len ≤ s.cap) : RdSl h ⟨if s.cap = n then s.a else Option.map (fun z => Addr.add z (n * 1)) s.a, s.len - n, s.cap - n⟩ (xs.drop n) := by
  have hl := r.1
  refine ⟨by simp; omega, fun ha => ?_, fun b hb i v hv => ?_⟩
  · simp only at ha
    split at ha
    · have := r.2.1 ha; simp only; omega
    · rw [Option.map_eq_none_iff] at ha; have := r.2.1 ha; simp only; omega
  · simp only at hb
    rw [List.getElem?_drop] at hv
    have hlt := (List.getElem?_eq_some_iff.1 hv).1
    split at hb
    · omega
    · cases ha : s.a with
      | none => rw [ha] at hb; cases hb
      | some b0 =>
        rw [ha] at hb
        simp only [Option.map_some, Option.some.injEq] at hb
        subst hb
        rw [add_add, Nat.mul_one]
        exact r.2.2 b0 ha (n + i) v hv
/-- a slice written out of one new row -/
theorem RdSl.row {own : List Ent} {ro : Addr → Option Value} {r n : Nat} {vs : List Value} {e : Ent} (he : e ∈ own) (hid : e.aid = some r) (hc : e.cells = vs) : RdSl ⟨own, ro⟩ ⟨some (Addr.mk r 0 none), vs.length, n⟩ vs :=
  ⟨rfl, (nomatch ·), fun b hb i v hv => by cases hb; rw [add_mk']; exact rdo e he hid (by rw [hc, Nat.zero_add]; exact hv)⟩
end Go.Eng
namespace Go.Eng
theorem RdSl.at {h : H} {s : SV} {xs : List Int} (r : RdSl h s (ints xs)) {i : Int} (h0 : 0 ≤ i) (h1 : i < ((s.len : Nat) : Int)) : ∃ (b : Addr) (x : Int), s.a = some b ∧ xs[i.toNat]? = some x ∧ H.rd h (Addr.add (Addr.add b (i.toNat * 1)) 0) (Value.int .i64 x) := by
  obtain ⟨b, hb, _, _, x, h3, h4⟩ := r.idx h0 h1 (K := fun x => xs[i.toNat]? = some x) (fun x hx => hx)
  exact ⟨b, x, hb, h4, h3⟩
end Go.Eng
namespace Go.Eng
theorem spl_drop {cells vs : List Value} {off k : Nat} (h : off + k + vs.length ≤ cells.length) : (spl cells (off + k) vs).drop off = spl (cells.drop off) k vs := by
  simp only [spl]
  rw [List.drop_append_of_le_length (by simp; omega), List.drop_take, List.drop_drop]
  congr 1
  · congr 1; omega
  · congr 2; omega
theorem spl_length {cells vs : List Value} {k : Nat} (h : k + vs.length ≤ cells.length) : (spl cells k vs).length = cells.length := by
  simp only [spl, List.length_append, List.length_take, List.length_drop]; omega

/-- cells of a row of a slice set -/
theorem OwnsSl.setRow {α : Type} {f : α → List Value} {sz : Nat} (hf : ∀ a, (f a).length = sz) {s : SV} {e : Ent} {q : List α} (ho : OwnsSl sz s e (q.flatMap f)) {i : Nat} {x x' : α} (hx : q[i]? = some x) {j : Nat} {vs : List Value} (hj : j + vs.length ≤ sz) (he : f x' = spl (f x) j vs) (hz : 0 < sz) :
    ∃ b off, s.a = some ⟨b, off, none⟩ ∧ e.aid = some b ∧ off + (i * sz + j) + vs.length ≤ e.cells.length ∧ OwnsSl sz s ⟨e.aid, spl e.cells (off + (i * sz + j)) vs, e.cap⟩ ((q.set i x').flatMap f) := by
  have hlen := ho.rows_len hf hz
  have hi : i < q.length := (List.getElem?_eq_some_iff.1 hx).1
  rcases ho with ⟨h1, h2, _⟩ | ⟨b, off, h1, h2, h3, h4, h5, h6, h7⟩
  · omega
  · have hle : i * sz + sz ≤ s.len * sz := by rw [← Nat.succ_mul]; exact Nat.mul_le_mul_right _ (by omega)
    refine ⟨b, off, h1, h2, by omega, .inr ⟨b, off, h1, h2, ?_, h4, h5, h6, ?_⟩⟩
    · simp only
      rw [spl_length (by omega), h3]
    · simp only
      rw [spl_drop (by omega), h7, rows_spl hf q i j x x' hx hj he]

theorem wr_row {α : Type} {f : α → List Value} {sz : Nat} (hf : ∀ a, (f a).length = sz) (hz : 0 < sz) {s : SV} {q : List α} {i : Nat} {x x' : α} {b : Addr} {own : List Ent} {ro : Addr → Option Value} {j : Nat} {vs : List Value} {K : H → Prop} (A : List Ent) (e : Ent) (C : List Ent) (hown : own = A ++ e :: C)
    (ho : OwnsSl sz s e (q.flatMap f)) (hx : q[i]? = some x) (hb : s.a = some b) (hj : j + vs.length ≤ sz) (he : f x' = spl (f x) j vs) (h1 : allOne vs)
    (hk : ∀ e', OwnsSl sz s e' ((q.set i x').flatMap f) → e'.id = e.id → K ⟨A ++ e' :: C, ro⟩) : H.wr ⟨own, ro⟩ (Addr.add (Addr.add b (i * sz)) j) vs K := by
  obtain ⟨b', off, g1, g2, g3, g4⟩ := ho.setRow hf hx hj he hz
  have : b = ⟨b', off, none⟩ := Option.some.inj (hb.symm.trans g1)
  subst this
  rw [add_add, add_mk']
  exact wro A e C h1 hown g2 g3 (hk _ g4 (by rw [Ent.blk_of_id g2, Ent.blk_of_id (e := ⟨e.aid, spl e.cells (off + (i * sz + j)) vs, e.cap⟩) g2]))

theorem ints_flat (xs : List Int) : ints xs = xs.flatMap fun n => [intV n] := by
  induction xs with
  | nil => rfl
  | cons x xs ih => simp only [ints, List.map_cons, List.flatMap_cons, List.singleton_append] at ih ⊢; rw [ih]

theorem wr_int {s : SV} {xs : List Int} {i : Nat} {b : Addr} {own : List Ent} {ro : Addr → Option Value} {v : Int} {K : H → Prop} (A : List Ent) (e : Ent) (C : List Ent) (hown : own = A ++ e :: C)
    (ho : OwnsSl 1 s e (ints xs)) (hi : i < xs.length) (hb : s.a = some b) (hk : ∀ e', OwnsSl 1 s e' (ints (xs.set i v)) → e'.id = e.id → K ⟨A ++ e' :: C, ro⟩) : H.wr ⟨own, ro⟩ (Addr.add b (i * 1)) [.int .i64 v] K := by
  rw [ints_flat] at ho
  have := wr_row (f := fun n => [intV n]) (sz := 1) (x' := v) (ro := ro) (K := K) (vs := [.int .i64 v]) (fun _ => rfl) (by decide) A e C hown ho (List.getElem?_eq_getElem hi) hb (j := 0) (by simp) rfl ⟨rfl, trivial⟩ (fun e' h1 h2 => hk e' (by rw [ints_flat]; exact h1) h2)
  rwa [add_zero'] at this
end Go.Eng
