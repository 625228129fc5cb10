import Derived.Test.YtnppmcgmmdcpiaaGreatDoorEngG
/- The engine, eighth part: small lemmas for whoever proves with it. -/
namespace Go.Eng

theorem gi {p : H → Prop} {h : H} (hp : p h) : ∃ h2, Gh h h2 ∧ p h2 := ⟨h, Gh.refl h, hp⟩
theorem ret {post : Value → H → Prop} {h : H} {v : Value} (hp : post v h) : VRet h v post := ⟨h, Gh.refl h, hp⟩

theorem nd_id {l : List Ent} (h : (l.filterMap Ent.id).Nodup) : (l.filterMap Ent.aid).Nodup := by
  have : (l.filterMap Ent.aid).Sublist (l.filterMap Ent.id) := by
    clear h
    induction l with
    | nil => simp
    | cons e l ih =>
      cases hi : e.aid with
      | some r => simp only [List.filterMap_cons, hi, Ent.blk_of_id hi]; exact ih.cons_cons _
      | none =>
        simp only [List.filterMap_cons, hi]
        cases e.id with
        | none => exact ih
        | some r => exact ih.cons _
  exact h.sublist this
theorem SemCall.nodup {P : Program} {f : FuncId} {args : Array Value} {h : H} {post : Value → H → Prop} (hx : (h.own.filterMap Ent.id).Nodup → SemCall P f args h post) : SemCall P f args h post :=
  fun w hw => hx hw.nd w hw

theorem pure_call {P : Program} {f : FuncId} {args : Array Value} {v : Value} {h : H} {post : Value → H → Prop} (hx : PureCall P f args v) (hp : post v h) : SemCall P f args h post := hx.sem hp

@[simp] theorem add_mk' (b o n : Nat) : Addr.add (Addr.mk b o none) n = Addr.mk b (o + n) none := add_mk b o n
@[simp] theorem VIf_true (A B : Prop) : VIf true A B ↔ A := by simp [VIf]
@[simp] theorem VIf_false (A B : Prop) : VIf false A B ↔ B := by simp [VIf]
theorem VIf_of {t : Bool} {A B : Prop} (h : if t = true then A else B) : VIf t A B := by
  cases t
  · exact ⟨fun h => (by cases h), fun _ => h⟩
  · exact ⟨fun _ => h, fun h => (by cases h)⟩
theorem VIf_dec {p : Prop} [Decidable p] {A B : Prop} (h1 : p → A) (h2 : ¬ p → B) : VIf (decide p) A B :=
  ⟨fun h => h1 (of_decide_eq_true h), fun h => h2 (of_decide_eq_false h)⟩

@[simp] theorem isIfaceV_errV (o : Option (TypeId × Value)) : isIfaceV (errV o) = true := by cases o <;> rfl
@[simp] theorem isNilV_errV (o : Option (TypeId × Value)) : isNilV (errV o) = o.isNone := by cases o <;> rfl
@[simp] theorem errV_oneCell (o : Option (TypeId × Value)) : (errV o).oneCell' = true := by cases o <;> rfl
theorem errV_inj {o o' : Option (TypeId × Value)} (h : errV o = errV o') : o = o' := by
  cases o <;> cases o' <;> simp [errV] at h
  · rfl
  · rename_i a b; cases a; cases b; simp_all

/-- an error of number k (0: nil); E: the type's number -/
def eno (E : TypeId) (k : Int) : Option (TypeId × Value) := if k = 0 then none else some (E, .int .i64 k)
@[simp] theorem eno_zero (E : TypeId) : eno E 0 = none := rfl
@[simp] theorem errV_none : errV none = .nilIface := rfl
@[simp] theorem errV_some (t : TypeId) (v : Value) : errV (some (t, v)) = .iface t v := rfl

theorem SemCall.at {P : Program} {f : FuncId} {args : Array Value} {h : H} {A L C : List Ent} {ro : Addr → Option Value} {p q : Value → H → Prop} (hg : Gh h ⟨A ++ (L ++ C), ro⟩)
    (H1 : SemCall P f args ⟨L, ro⟩ p) (hq : ∀ v L' ro', p v ⟨L', ro'⟩ → (∀ a v, ro a = some v → ro' a = some v) → q v ⟨A ++ (L' ++ C), ro'⟩) : SemCall P f args h q :=
  SemCall.ghost hg (SemCall.frame H1 hq)

/-! ### rows of one width -/

theorem rows_get {α : Type} {f : α → List Value} {k : Nat} (hf : ∀ a, (f a).length = k) : ∀ (l : List α) (i j : Nat), j < k → (l.flatMap f)[i * k + j]? = (l[i]?).bind fun a => (f a)[j]?
  | [], i, j, _ => by simp
  | a :: l, 0, j, hj => by
    simp only [List.flatMap_cons, Nat.zero_mul, Nat.zero_add]
    rw [List.getElem?_append_left (by rw [hf]; exact hj)]
    rfl
  | a :: l, i + 1, j, hj => by
    simp only [List.flatMap_cons]
    rw [List.getElem?_append_right (by rw [hf, Nat.add_mul]; omega), hf]
    rw [show (i + 1) * k + j - k = i * k + j by rw [Nat.add_mul]; omega]
    simpa using rows_get hf l i j hj

theorem rows_length {α : Type} {f : α → List Value} {k : Nat} (hf : ∀ a, (f a).length = k) : ∀ (l : List α), (l.flatMap f).length = l.length * k
  | [] => by simp
  | a :: l => by simp only [List.flatMap_cons, List.length_append, hf, rows_length hf l, List.length_cons, Nat.add_mul]; omega

theorem spl_append_left {xs ys vs : List Value} {o : Nat} (h : o + vs.length ≤ xs.length) : spl (xs ++ ys) o vs = spl xs o vs ++ ys := by
  simp only [spl]
  rw [List.take_append_of_le_length (by omega), List.drop_append_of_le_length (by omega)]
  simp
theorem spl_append_right {xs ys vs : List Value} {o : Nat} (h : xs.length ≤ o) : spl (xs ++ ys) o vs = xs ++ spl ys (o - xs.length) vs := by
  simp only [spl]
  rw [List.take_append, List.drop_append, List.take_of_length_le h, List.drop_eq_nil_of_le (by omega)]
  simp only [List.nil_append, List.append_assoc]
  rw [show o + vs.length - xs.length = o - xs.length + vs.length by omega]

theorem rows_spl {α : Type} {f : α → List Value} {k : Nat} (hf : ∀ a, (f a).length = k) {vs : List Value} : ∀ (l : List α) (i j : Nat) (a a' : α), l[i]? = some a → j + vs.length ≤ k → f a' = spl (f a) j vs →
    spl (l.flatMap f) (i * k + j) vs = (l.set i a').flatMap f
  | [], i, j, a, a', h, _, _ => by simp at h
  | x :: l, 0, j, a, a', h, hj, he => by
    simp at h
    subst h
    simp only [List.flatMap_cons, Nat.zero_mul, Nat.zero_add, List.set_cons_zero]
    rw [spl_append_left (by rw [hf]; exact hj), he]
  | x :: l, i + 1, j, a, a', h, hj, he => by
    simp only [List.flatMap_cons, List.set_cons_succ]
    rw [spl_append_right (by rw [hf, Nat.add_mul]; omega), hf]
    rw [show (i + 1) * k + j - k = i * k + j by rw [Nat.add_mul]; omega, rows_spl hf l i j a a' (by simpa using h) hj he]

/-- ints as cells -/
def intV (n : Int) : Value := .int .i64 n
def ints (xs : List Int) : List Value := xs.map intV
@[simp] theorem ints_length (xs : List Int) : (ints xs).length = xs.length := by simp [ints]
theorem ints_get (xs : List Int) (i : Nat) : (ints xs)[i]? = (xs[i]?).map intV := by simp [ints]
theorem ints_spl (xs : List Int) (i : Nat) (n : Int) (h : i < xs.length) : spl (ints xs) i [.int .i64 n] = ints (xs.set i n) := by
  simp only [spl, ints, List.length_cons, List.length_nil, Nat.zero_add]
  rw [List.set_eq_take_append_cons_drop, if_pos h]
  simp [intV, List.map_take, List.map_drop]

end Go.Eng

namespace Go.Eng

theorem rdo {h : H} {b o : Nat} {v : Value} (e : Ent) (he : e ∈ h.own) (hid : e.aid = some b) (hc : e.cells[o]? = some v) : H.rd h (Addr.mk b o none) v := ⟨rfl, .inl ⟨e, he, hid, hc⟩⟩
theorem rdr {h : H} {b o : Nat} {v : Value} (hr : h.ro (Addr.mk b o none) = some v) : H.rd h (Addr.mk b o none) v := ⟨rfl, .inr hr⟩

theorem wro {own : List Ent} {ro : Addr → Option Value} {b o : Nat} {vs : List Value} {K : H → Prop} (A : List Ent) (e : Ent) (C : List Ent) (h1 : allOne vs) (hown : own = A ++ e :: C) (hid : e.aid = some b) (hlen : o + vs.length ≤ e.cells.length)
    (hk : K ⟨A ++ ⟨e.aid, spl e.cells o vs, e.cap⟩ :: C, ro⟩) : H.wr ⟨own, ro⟩ (Addr.mk b o none) vs K := ⟨rfl, h1, A, e, C, hown, hid, hlen, hk⟩

@[simp] theorem bnot_eq_true' (b : Bool) : ((!b) = true) = (b = false) := by cases b <;> simp

/-- what a slice value reads, of elements of one cell -/
def RdSl (h : H) (s : SV) (xs : List Value) : Prop := s.len = xs.length ∧ (s.a = none → s.len = 0) ∧ ∀ b, s.a = some b → ∀ i v, xs[i]? = some v → H.rd h (Addr.add b i) v

theorem RdSl.len {h : H} {s : SV} {xs : List Value} (r : RdSl h s xs) : s.len = xs.length := r.1
theorem RdSl.addr {h : H} {s : SV} {xs : List Value} (r : RdSl h s xs) (hp : 0 < xs.length) : ∃ b, s.a = some b := by
  cases ha : s.a with
  | none => have := r.2.1 ha; rw [r.1] at this; omega
  | some b => exact ⟨b, rfl⟩
theorem RdSl.get {h : H} {s : SV} {xs : List Value} (r : RdSl h s xs) {b : Addr} (hb : s.a = some b) {i : Nat} {v : Value} (hv : xs[i]? = some v) : H.rd h (Addr.add b i) v := r.2.2 b hb i v hv

theorem RdSl.of_own {h : H} {s : SV} {e : Ent} {xs : List Value} (he : e ∈ h.own) (ho : OwnsSl 1 s e xs) : RdSl h s xs := by
  rcases ho with ⟨h1, h2, _, _, _, rfl⟩ | ⟨b, off, h1, h2, h3, _, _, _, h7⟩
  · exact ⟨h2, fun _ => h2, fun b hb => (by rw [h1] at hb; cases hb)⟩
  · refine ⟨by rw [← h7, List.length_drop, h3]; omega, fun ha => (by rw [h1] at ha; cases ha), fun b' hb i v hv => ?_⟩
    rw [h1] at hb
    cases hb
    rw [add_mk']
    refine rdo e he h2 ?_
    rw [← h7, List.getElem?_drop] at hv
    exact hv

/-- an empty slice is owned by nothing -/
theorem OwnsSl.nil (sz : Nat) : OwnsSl sz ⟨none, 0, 0⟩ ⟨none, [], 0⟩ [] := .inl ⟨rfl, rfl, rfl, rfl, rfl, rfl⟩
theorem OwnsSl.len {sz : Nat} {s : SV} {e : Ent} {xs : List Value} (h : OwnsSl sz s e xs) : xs.length = s.len * sz := by
  rcases h with ⟨_, h2, _, _, _, rfl⟩ | ⟨b, off, _, _, h3, _, _, _, h7⟩
  · simp [h2]
  · rw [← h7, List.length_drop, h3]; omega

/-! ### descriptions turned -/

theorem Holds.sub {w : World} {own own' : List Ent} {ro : Addr → Option Value} (hw : Holds w ⟨own, ro⟩) (h : own'.Sublist own) : Holds w ⟨own', ro⟩ :=
  ⟨(hw.nd.sublist (h.filterMap _)), fun e he => hw.ok e (h.subset he), hw.ro, fun a v hv e he => hw.ap a v hv e (h.subset he)⟩

/-- rows are let go -/
theorem Gh.drop {own own' : List Ent} {ro : Addr → Option Value} (h : own'.Sublist own) : Gh ⟨own, ro⟩ ⟨own', ro⟩ :=
  ⟨fun _ hw => hw.sub h, fun e he _ hr => ⟨e, h.subset he, hr⟩, fun _ _ x => x, fun _ _ x => .inl x⟩

/-- rows in another order -/
theorem Gh.perm {own own' : List Ent} {ro : Addr → Option Value} (h : own'.Perm own) : Gh ⟨own, ro⟩ ⟨own', ro⟩ :=
  ⟨fun _ hw => ⟨(List.Perm.nodup_iff (h.filterMap _)).2 hw.nd, fun e he => hw.ok e (h.mem_iff.1 he), hw.ro, fun a v hv e he => hw.ap a v hv e (h.mem_iff.1 he)⟩, fun e he _ hr => ⟨e, h.mem_iff.1 he, hr⟩, fun _ _ x => x, fun _ _ x => .inl x⟩

/-- an empty row more -/
theorem Gh.phantom (A C : List Ent) (ro : Addr → Option Value) (n : Nat) : Gh ⟨A ++ C, ro⟩ ⟨A ++ ⟨none, [], n⟩ :: C, ro⟩ := by
  refine ⟨fun w hw => ⟨?_, ?_, hw.ro, ?_⟩, ?_, fun _ _ x => x, fun _ _ x => .inl x⟩
  · have := hw.nd
    simpa [List.filterMap_append, List.filterMap_cons] using this
  · intro e he
    simp only [List.mem_append, List.mem_cons] at he
    rcases he with he | rfl | he
    · exact hw.ok e (by simp [he])
    · exact ⟨fun r hr => (by cases hr), fun a bs hf => (by cases hf), fun a hf => (by cases hf)⟩
    · exact hw.ok e (by simp [he])
  · intro a v hv e he
    simp only [List.mem_append, List.mem_cons] at he
    rcases he with he | rfl | he
    · exact hw.ap a v hv e (by simp [he])
    · simp
    · exact hw.ap a v hv e (by simp [he])
  · intro e he r hr
    simp only [List.mem_append, List.mem_cons] at he
    rcases he with he | rfl | he
    · exact ⟨e, by simp [he], hr⟩
    · cases hr
    · exact ⟨e, by simp [he], hr⟩

/-- less is known of a row -/
theorem Gh.weaken (A C : List Ent) (ro : Addr → Option Value) (e : Ent) (cs : List Value) (h : cs <+: e.cells) (hz : e.aid = none → e.cells = [] := by intro hn; cases hn) : Gh ⟨A ++ e :: C, ro⟩ ⟨A ++ ⟨e.aid, cs, e.cap⟩ :: C, ro⟩ := by
  have hb : (⟨e.aid, cs, e.cap⟩ : Ent).id = e.id := by
    cases hi : e.aid with
    | some r => rw [Ent.blk_of_id hi]; rfl
    | none =>
      have hc := hz hi
      rw [Ent.blk_none hi hc]
      rw [hc] at h
      rw [List.prefix_nil.1 h]
      rfl
  have hids : ∀ e1 ∈ A ++ ⟨e.aid, cs, e.cap⟩ :: C, ∃ e0 ∈ A ++ e :: C, e0.id = e1.id := by
    intro e1 he
    simp only [List.mem_append, List.mem_cons] at he
    rcases he with he | rfl | he
    · exact ⟨e1, by simp [he], rfl⟩
    · exact ⟨e, by simp, hb.symm⟩
    · exact ⟨e1, by simp [he], rfl⟩
  refine ⟨fun w hw => ⟨?_, ?_, hw.ro, ?_⟩, ?_, fun _ _ x => x, fun _ _ x => .inl x⟩
  · have := hw.nd
    simp only [List.filterMap_append, List.filterMap_cons, hb] at this ⊢
    exact this
  · intro e1 he
    simp only [List.mem_append, List.mem_cons] at he
    rcases he with he | rfl | he
    · exact hw.ok e1 (by simp [he])
    · refine ⟨fun r hr => ?_, fun a bs hf => ?_, fun a hf => ?_⟩
      · obtain ⟨arr, T, g1, g2, g3⟩ := (hw.ok e (by simp)).row r hr
        exact ⟨arr, T, g1, g2, h.trans g3⟩
      · have := Ent.blk_of_fz hf
        rw [hb] at this
        cases hi : e.aid with
        | some r => rw [Ent.fz_of_id (e := ⟨e.aid, cs, e.cap⟩) hi] at hf; cases hf
        | none => rw [Ent.blk_none hi (hz hi)] at this; cases this
      · cases hi : e.aid with
        | some r => rw [Ent.sh_of_id (e := ⟨e.aid, cs, e.cap⟩) hi] at hf; cases hf
        | none =>
          have hc := hz hi
          rw [hc] at h
          rw [Ent.sh_none (e := ⟨e.aid, cs, e.cap⟩) hi (List.prefix_nil.1 h)] at hf
          cases hf
    · exact hw.ok e1 (by simp [he])
  · intro a v hv e1 he hid
    obtain ⟨e0, h0, h1⟩ := hids e1 he
    exact hw.ap a v hv e0 h0 (h1.trans hid)
  · intro e1 he r hr
    obtain ⟨e0, h0, h1⟩ := hids e1 he
    exact ⟨e0, h0, h1.trans hr⟩

/-- the cells of a row, read only from here on -/
def frozen (e : Ent) (ro : Addr → Option Value) : Addr → Option Value := fun a => if e.aid = some a.block ∧ a.spot = none then e.cells[a.off]? else ro a

theorem Gh.freeze (A C : List Ent) (ro : Addr → Option Value) (e : Ent) (hro : ∀ a v, ro a = some v → e.id ≠ some a.block) : Gh ⟨A ++ e :: C, ro⟩ ⟨A ++ C, frozen e ro⟩ := by
  refine ⟨fun w hw => ⟨?_, fun e1 he => hw.ok e1 (by simp at he ⊢; rcases he with he | he <;> simp [he]), ?_, ?_⟩, ?_, ?_, ?_⟩
  · exact hw.nd.sublist (List.Sublist.filterMap _ (by simp))
  · intro a v hv
    have hv : (if e.aid = some a.block ∧ a.spot = none then e.cells[a.off]? else ro a) = some v := hv
    split at hv
    · rename_i hc
      obtain ⟨arr, T, g1, g2, ⟨tl, g3⟩⟩ := (hw.ok e (by simp)).row _ hc.1
      simp only [World.cell?, g1, hc.2]
      have hlt := (List.getElem?_eq_some_iff.1 hv).1
      have : arr.toList[a.off]? = some v := by rw [← g3, List.getElem?_append_left hlt]; exact hv
      simpa using this
    · exact hw.ro a v hv
  · intro a v hv e1 he hid
    have hv : (if e.aid = some a.block ∧ a.spot = none then e.cells[a.off]? else ro a) = some v := hv
    split at hv
    · rename_i hc
      have hnd := hw.nd
      simp only [List.filterMap_append, List.filterMap_cons, Ent.blk_of_id hc.1, List.nodup_append, List.nodup_cons, List.mem_filterMap, List.mem_cons] at hnd
      obtain ⟨_, ⟨h1, _⟩, h2⟩ := hnd
      simp only [List.mem_append] at he
      rcases he with he | he
      · exact h2 _ ⟨e1, he, hid⟩ _ (.inl rfl) rfl
      · exact h1 ⟨e1, he, hid⟩
    · exact hw.ap a v hv e1 (by simp at he ⊢; rcases he with he | he <;> simp [he]) hid
  · intro e1 he r hr
    exact ⟨e1, by simp at he ⊢; rcases he with he | he <;> simp [he], hr⟩
  · intro a v hv
    show frozen e ro a = some v
    unfold frozen
    rw [if_neg (fun hc => hro a v hv (Ent.blk_of_id hc.1))]
    exact hv
  · intro a v hv
    have hv : (if e.aid = some a.block ∧ a.spot = none then e.cells[a.off]? else ro a) = some v := hv
    split at hv
    · rename_i hc; exact .inr ⟨e, by simp, Ent.blk_of_id hc.1⟩
    · exact .inl hv

end Go.Eng
