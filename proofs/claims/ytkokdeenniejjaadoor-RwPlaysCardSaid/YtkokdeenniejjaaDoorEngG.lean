import Derived.Test.YtkokdeenniejjaaDoorEngF
/- The engine, seventh part: regions, code, calls. -/
namespace Go.Eng
open Go.RowKit

structure Rel (n : Nat) (f : F) (a : Act) : Prop where
  defers : a.defers = []
  size : a.tmps.size = n
  get : ∀ t, a.tmps.getD t undef = f t

theorem Rel.eval {n : Nat} {f : F} {a : Act} (hr : Rel n f a) : a.eval = ev f := by
  funext x
  cases x with
  | tmp t => exact hr.get t
  | const v => rfl
  | global g => rfl
  | func m => rfl

theorem Rel.put {n : Nat} {f : F} {a : Act} (hr : Rel n f a) {d : Option Tmp} (hd : ∀ t, d = some t → t < n) (v : Value) : Rel n (put f d v) (a.put d v) := by
  cases d with
  | none => exact hr
  | some t =>
    have ht := hd t rfl
    refine ⟨hr.defers, by simp [Act.put, hr.size], fun s => ?_⟩
    have hg := hr.get s
    show (a.tmps.setIfInBounds t v).getD s undef = cond (Nat.beq s t) v (f s)
    by_cases hst : s = t
    · subst hst
      have hlt : s < a.tmps.size := by rw [hr.size]; exact ht
      have : Nat.beq s s = true := Nat.beq_refl s
      rw [this, cond_true]
      simp [Array.getD, hlt]
    · have : Nat.beq s t = false := by
        cases hb : Nat.beq s t
        · rfl
        · exact absurd (Nat.eq_of_beq_eq_true hb) hst
      rw [this, cond_false, ← hg]
      simp [Array.getElem?_setIfInBounds_ne (Ne.symm hst)]

def Agree (W : List Nat) (f f' : F) : Prop := ∀ t, t ∉ W → f' t = f t

theorem Agree.refl (W : List Nat) (f : F) : Agree W f f := fun _ _ => rfl
theorem Agree.put {W : List Nat} {f f' : F} (h : Agree W f f') {d : Option Tmp} (hd : ∀ t, d = some t → t ∈ W) (v : Value) : Agree W f (put f' d v) := by
  intro s hs
  cases d with
  | none => exact h s hs
  | some t =>
    have hne : s ≠ t := fun e => hs (e ▸ hd t rfl)
    show cond (Nat.beq s t) v (f' s) = f s
    have : Nat.beq s t = false := by
      cases hb : Nat.beq s t
      · rfl
      · exact absurd (Nat.eq_of_beq_eq_true hb) hne
    rw [this, cond_false]
    exact h s hs
theorem Agree.trans {W W1 W2 : List Nat} {f f1 f2 : F} (h1 : Agree W1 f f1) (h2 : Agree W2 f1 f2) (hw1 : ∀ t ∈ W1, t ∈ W) (hw2 : ∀ t ∈ W2, t ∈ W) : Agree W f f2 :=
  fun t ht => (h2 t (fun h => ht (hw2 t h))).trans (h1 t (fun h => ht (hw1 t h)))

theorem upd_self {f : F} {s : Nat} {v : Value} (h : f s = v) : upd f s v = f := by
  funext t
  show cond (Nat.beq t s) v (f t) = f t
  cases hb : Nat.beq t s
  · rfl
  · rw [Nat.eq_of_beq_eq_true hb, h]; rfl

structure Inv (n : Nat) (w0 : World) (h0 : H) (f : F) (h : H) (a : Act) (w : World) : Prop where
  rel : Rel n f a
  holds : Holds w h
  fr : Fr w0 w h0 h

theorem drew_holds {w : World} {h : H} (hw : Holds w h) : Holds { w with drawn := w.drawn + 1 } h :=
  ⟨hw.nd, fun e he r hr => hw.ok e he r hr, hw.ro, hw.ap⟩
theorem drew_fr (w : World) (h : H) : Fr w { w with drawn := w.drawn + 1 } h h :=
  ⟨rfl, rfl, rfl, Nat.le_refl _, fun _ _ _ => rfl, fun e he _ hr => .inl ⟨e, he, hr⟩, fun _ _ x => x, fun _ _ x => .inl x⟩
theorem Inv.drew {n : Nat} {w0 : World} {h0 : H} {f : F} {h : H} {a : Act} {w : World} (i : Inv n w0 h0 f h a w) : Inv n w0 h0 f h a { w with drawn := w.drawn + 1 } :=
  ⟨i.rel, drew_holds i.holds, i.fr.trans (drew_fr w h)⟩

def KnOk (kn : List (Nat × Bool)) (f : F) : Prop := ∀ s t, knGet kn s = some t → f s = .bool t

theorem knGet_filter {d : Nat} : ∀ {kn : List (Nat × Bool)} {s : Nat} {t : Bool}, knGet (kn.filter fun p => !(Nat.beq p.1 d)) s = some t → s ≠ d ∧ knGet kn s = some t
  | [], _, _, h => by simp [knGet] at h
  | p :: kn, s, t, h => by
    rw [List.filter_cons] at h
    cases hb : Nat.beq p.1 d
    · simp only [hb, Bool.not_false, if_true] at h
      unfold knGet at h ⊢
      cases hp : Nat.beq p.1 s <;> simp only [hp, cond_true, cond_false] at h ⊢
      · exact knGet_filter h
      · refine ⟨fun e => ?_, h⟩
        have := Nat.eq_of_beq_eq_true hp
        rw [this, e, Nat.beq_refl] at hb
        cases hb
    · simp only [hb, Bool.not_true, Bool.false_eq_true, if_false] at h
      obtain ⟨h1, h2⟩ := knGet_filter h
      refine ⟨h1, ?_⟩
      unfold knGet
      have : Nat.beq p.1 s = false := by
        cases hp : Nat.beq p.1 s
        · rfl
        · exact absurd ((Nat.eq_of_beq_eq_true hp).symm.trans (Nat.eq_of_beq_eq_true hb)) h1
      rw [this, cond_false]
      exact h2

theorem KnOk.put {kn : List (Nat × Bool)} {f : F} (h : KnOk kn f) (d : Option Tmp) (v : Value) : KnOk (knDel kn d) (put f d v) := by
  intro s t hs
  cases d with
  | none => exact h s t hs
  | some d =>
    obtain ⟨h1, h2⟩ := knGet_filter hs
    show cond (Nat.beq s d) v (f s) = .bool t
    have : Nat.beq s d = false := by
      cases hb : Nat.beq s d
      · rfl
      · exact absurd (Nat.eq_of_beq_eq_true hb) h1
    rw [this, cond_false]
    exact h s t h2

theorem KnOk.cons {kn : List (Nat × Bool)} {f : F} (h : KnOk kn f) {s : Nat} {t : Bool} (hs : f s = .bool t) : KnOk ((s, t) :: kn) f := by
  intro s' t' h'
  unfold knGet at h'
  cases hb : Nat.beq s s' <;> simp only [hb, cond_true, cond_false] at h'
  · exact h s' t' h'
  · rw [← Nat.eq_of_beq_eq_true hb, hs, Option.some.inj h']

theorem yielded_of {n : Nat} {f : F} {a : Act} (hr : Rel n f a) {ops : List Oper} {j s : Nat} (hs : dstOf ops j = some s) :
    yielded ops.toArray a.tmps j = match f s with | .bool b => some b | _ => none := by
  unfold yielded
  have e1 : (ops.toArray[j]?).bind (·.dst) = some s := by simpa [dstOf] using hs
  rw [e1, Option.bind_some, ← hr.get s]
  by_cases hlt : s < a.tmps.size
  · simp [hlt]
    cases a.tmps[s] <;> rfl
  · have : a.tmps[s]? = none := Array.getElem?_eq_none (by omega)
    simp only [this, Array.getD, hlt, dite_false]
    rfl

theorem yielded_none {ops : List Oper} {tmps : Array Value} {j : Nat} (hs : dstOf ops j = none) : yielded ops.toArray tmps j = none := by
  unfold yielded
  have e1 : (ops.toArray[j]?).bind (·.dst) = none := by simpa [dstOf] using hs
  rw [e1]
  rfl

theorem mem_dsts {o : Oper} {l : List Oper} {d : Nat} (h : o.dst = some d) : d ∈ dsts (o :: l) := by simp [dsts, h]
theorem dsts_tail {o : Oper} {l : List Oper} {d : Nat} (h : d ∈ dsts l) : d ∈ dsts (o :: l) := by
  unfold dsts; cases o.dst <;> simp [h]

section
variable {P : Program} {n : Nat} {w0 : World} {h0 : H} {W : List Nat} {fS : F} {ops : List Oper}

theorem knOp_spec {kn : List (Nat × Bool)} {f : F} (hkn : KnOk kn f) {x : Operand} {t : Bool} (h : knOp kn x = some t) : ev f x = .bool t := by
  unfold knOp at h
  split at h
  · exact hkn _ _ h
  · cases h; rfl
  · cases h

theorem knOf_spec {kn : List (Nat × Bool)} {f : F} (hkn : KnOk kn f) {o : Oper} {t : Bool} (h : knOf kn o.op = some t) (w : World) : (execOp (ev f) o).run P w = .ok (.value (.bool t)) w := by
  unfold knOf at h
  split at h
  · rename_i x ho; simp only [execOp, ho, Sem.run_pure, knOp_spec hkn h]
  · rename_i x ho; simp only [execOp, ho, Sem.run_pure, knOp_spec hkn h]
  · rename_i x ho
    split at h
    · rename_i t' ht
      cases h
      simp only [execOp, ho, knOp_spec hkn ht, Op.unary, Sem.run_bind, Sem.run_pure, Result.andThen_ok]
    · cases h
  · rename_i c x y ho
    split at h
    · rename_i t' ht
      simp only [execOp, ho, knOp_spec hkn ht, asBool, Sem.run_bind, Sem.run_pure, Result.andThen_ok]
      cases t'
      · simp only [cond_false] at h; simp only [Bool.false_eq_true, if_false, knOp_spec hkn h]
      · simp only [cond_true] at h; simp only [if_true, knOp_spec hkn h]
    · cases h
  · cases h

theorem KnOk.known {kn : List (Nat × Bool)} {f : F} (h : KnOk kn f) (d : Nat) (t : Bool) : KnOk ((d, t) :: knDel kn (some d)) (upd f d (.bool t)) := by
  have h1 := h.put (some d) (.bool t)
  refine KnOk.cons h1 ?_
  show cond (Nat.beq d d) (Value.bool t) (f d) = .bool t
  rw [Nat.beq_refl]; rfl

/-- what one step of a region comes to -/
inductive Stepped' (P : Program) (still : Bool) (o : Oper) (f : F) (h : H) (K : List (Nat × Bool) → F → H → Prop) : Bool → Prop
  | op (kn : List (Nat × Bool)) (hk : KnOk kn f) (hx : opVC P still f h o fun v h' => K (knDel kn o.dst) (put f o.dst v) h') : Stepped' P still o f h K true
  | known (t : Bool) (d : Nat) (kn : List (Nat × Bool)) (hd : o.dst = some d) (hr : ∀ w, (execOp (ev f) o).run P w = .ok (.value (.bool t)) w) (hk : KnOk kn (upd f d (.bool t))) (hx : K kn (upd f d (.bool t)) h) : Stepped' P still o f h K true
  | skip (kn : List (Nat × Bool)) (hk : KnOk kn f) (hx : K (knDel kn o.dst) (put f o.dst undef) h) : Stepped' P still o f h K false

theorem stepOp_cases {still : Bool} {o : Oper} {kn : List (Nat × Bool)} {f : F} {h : H} {K : List (Nat × Bool) → F → H → Prop} (hkn : KnOk kn f) (hx : stepOp P still o kn f h K) : Stepped' P still o f h K true := by
  unfold stepOp at hx
  split at hx
  · rename_i t d ht hd
    exact .known t d _ hd (knOf_spec hkn ht) (hkn.known d t) hx
  · exact .op kn hkn hx

theorem step_guard {still : Bool} {o : Oper} {kn : List (Nat × Bool)} {f : F} {h : H} {a : Act} {K : List (Nat × Bool) → F → H → Prop} (hr : Rel n f a) (hkn : KnOk kn f)
    (hx : stepGuard P ops still o kn f h K) : Stepped' P still o f h K (Region.wanted o (yielded ops.toArray a.tmps)) := by
  unfold stepGuard at hx
  split at hx
  · rename_i hg
    rw [show Region.wanted o (yielded ops.toArray a.tmps) = true by simp [Region.wanted, hg]]
    exact stepOp_cases hkn hx
  · rename_i j b hg
    have hw : ∀ y, Region.wanted o y = (y j == some b) := fun y => by simp [Region.wanted, hg]
    split at hx
    · rename_i hs
      rw [hw, yielded_none hs]
      exact .skip kn hkn hx
    · rename_i s hs
      rw [hw, yielded_of hr hs]
      split at hx
      · rename_i t ht
        have hft := hkn s t ht
        rw [hft]
        cases t <;> cases b
        · exact stepOp_cases hkn hx
        · exact .skip kn hkn hx
        · exact .skip kn hkn hx
        · exact stepOp_cases hkn hx
      · split at hx
        · rename_i t hft
          rw [hft]
          cases t
          · have hx2 := hx.2 rfl
            rw [upd_self hft] at hx2
            cases b
            · exact stepOp_cases (hkn.cons hft) hx2
            · exact .skip _ (hkn.cons hft) hx2
          · have hx2 := hx.1 rfl
            rw [upd_self hft] at hx2
            cases b
            · exact .skip _ (hkn.cons hft) hx2
            · exact stepOp_cases (hkn.cons hft) hx2
        · rename_i hft
          rw [hft]
          exact .skip kn hkn hx
        · exact hx.elim

theorem execOps_seq {K : F → H → Prop} {Q : Exit → Act → World → Prop} (fin : ∀ f h a w, Inv n w0 h0 f h a w → Agree W fS f → K f h → Q .normal a w) :
    ∀ (l : List Oper) (kn : List (Nat × Bool)) (f : F) (h : H) (a : Act) (w : World), (∀ d ∈ dsts l, d < n ∧ d ∈ W) → KnOk kn f → Inv n w0 h0 f h a w → Agree W fS f →
      execOps P ops false K l kn f h → wpList P ops.toArray Q l a w
  | [], kn, f, h, a, w, _, _, hi, hag, hx => fin f h a w hi hag hx
  | o :: rest, kn, f, h, a, w, hd, hkn, hi, hag, hx => by
    have hd0 : ∀ t, o.dst = some t → t < n ∧ t ∈ W := fun t ht => hd t (mem_dsts ht)
    have hdr : ∀ d ∈ dsts rest, d < n ∧ d ∈ W := fun d h => hd d (dsts_tail h)
    unfold wpList
    have hst := step_guard (ops := ops) hi.rel hkn hx
    generalize Region.wanted o (yielded ops.toArray a.tmps) = wnt at hst
    cases hst with
    | op kn' hkn' hop =>
      rw [if_pos rfl]
      left
      refine opVC_wp hi.rel.eval hi.holds hop (fun v w' h' g1 g2 g3 => ?_)
      exact execOps_seq fin rest _ _ h' _ w' hdr (hkn'.put _ _) ⟨hi.rel.put (fun t ht => (hd0 t ht).1) v, g1, hi.fr.trans g2⟩ (hag.put (fun t ht => (hd0 t ht).2) v) g3
    | known t d kn' hdst hrun hkn' hop =>
      rw [if_pos rfl]
      left
      unfold Oper.wp
      rw [hi.rel.eval, hrun w, Oper.upon_value, hdst]
      have hdd := hd0 d hdst
      exact execOps_seq fin rest _ _ h _ w hdr hkn' ⟨hi.rel.put (d := some d) (fun t ht => (by cases ht; exact hdd.1)) _, hi.holds, hi.fr⟩ (hag.put (d := some d) (fun t ht => (by cases ht; exact hdd.2)) _) hop
    | skip kn' hkn' hop =>
      rw [if_neg (by simp)]
      exact execOps_seq fin rest _ _ h _ w hdr (hkn'.put _ _) ⟨hi.rel.put (fun t ht => (hd0 t ht).1) undef, hi.holds, hi.fr⟩ (hag.put (fun t ht => (hd0 t ht).2) undef) hop

theorem execOps_still {K : F → H → Prop} {L : Act → Prop} {h : H} {w : World} (hw : Holds w h) (fin : ∀ f a, Rel n f a → Agree W fS f → K f h → L a) :
    ∀ (l : List Oper) (kn : List (Nat × Bool)) (f : F) (a : Act), (∀ d ∈ dsts l, d < n ∧ d ∈ W) → KnOk kn f → Rel n f a → Agree W fS f →
      execOps P ops true K l kn f h → wpStill P ops.toArray w L l a
  | [], kn, f, a, _, _, hi, hag, hx => fin f a hi hag hx
  | o :: rest, kn, f, a, hd, hkn, hi, hag, hx => by
    have hd0 : ∀ t, o.dst = some t → t < n ∧ t ∈ W := fun t ht => hd t (mem_dsts ht)
    have hdr : ∀ d ∈ dsts rest, d < n ∧ d ∈ W := fun d h => hd d (dsts_tail h)
    unfold wpStill
    have hst := step_guard (ops := ops) hi hkn hx
    generalize Region.wanted o (yielded ops.toArray a.tmps) = wnt at hst
    cases hst with
    | op kn' hkn' hop =>
      rw [if_pos rfl]
      refine opVC_still hi.eval hw hop (fun v g3 => ?_)
      exact execOps_still hw fin rest _ _ _ hdr (hkn'.put _ _) (hi.put (fun t ht => (hd0 t ht).1) v) (hag.put (fun t ht => (hd0 t ht).2) v) g3
    | known t d kn' hdst hrun hkn' hop =>
      rw [if_pos rfl]
      unfold Oper.still
      rw [hi.eval, hrun w, Oper.stillUpon_value, hdst]
      have hdd := hd0 d hdst
      exact execOps_still hw fin rest _ _ _ hdr hkn' (hi.put (d := some d) (fun t ht => (by cases ht; exact hdd.1)) _) (hag.put (d := some d) (fun t ht => (by cases ht; exact hdd.2)) _) hop
    | skip kn' hkn' hop =>
      rw [if_neg (by simp)]
      exact execOps_still hw fin rest _ _ _ hdr (hkn'.put _ _) (hi.put (fun t ht => (hd0 t ht).1) undef) (hag.put (fun t ht => (hd0 t ht).2) undef) hop

theorem dsts_take : ∀ (l : List Oper) (m : Nat) (d : Nat), d ∈ dsts (l.take m) → d ∈ dsts l
  | [], m, d, h => by simp at h; exact h
  | o :: l, 0, d, h => by simp [dsts] at h
  | o :: l, m + 1, d, h => by
    simp only [List.take_succ_cons] at h
    cases ho : o.dst with
    | none => simp only [dsts, ho] at h ⊢; exact dsts_take l m d h
    | some t =>
      simp only [dsts, ho, List.mem_cons] at h ⊢
      exact h.imp id (dsts_take l m d)
theorem dsts_drop : ∀ (l : List Oper) (m : Nat) (d : Nat), d ∈ dsts (l.drop m) → d ∈ dsts l
  | [], m, d, h => by simp at h; exact h
  | o :: l, 0, d, h => h
  | o :: l, m + 1, d, h => by
    simp only [List.drop_succ_cons] at h
    have := dsts_drop l m d h
    exact dsts_tail this

def PostQ (n : Nat) (w0 : World) (h0 : H) (W : List Nat) (f : F) (Q : Exit → F → H → Prop) : Exit → Act → World → Prop :=
  fun e a w => ∃ f' h', Inv n w0 h0 f' h' a w ∧ Agree W f f' ∧ Q e f' h'

/-! any order -/

def emptyH : H := ⟨[], fun _ => none⟩
theorem holds_empty (w : World) : Holds w emptyH := ⟨by simp [emptyH], by simp [emptyH], fun a v h => by simp [emptyH] at h, fun a v h => by simp [emptyH] at h⟩

theorem heapFree_opVC {f : F} {h : H} {o : Oper} {K : Value → H → Prop} (hf : heapFree o.op = true) (hx : opVC P false f h o K) : readVC P f emptyH o.op fun v => K v h := by
  unfold opVC at hx
  generalize o.op = op at hf hx
  cases op <;> simp only [heapFree, Bool.false_eq_true] at hf <;> exact hx

def NQ (N : Act → World → Prop) : Exit → Act → World → Prop
  | .normal, a, w => N a w
  | _, _, _ => False

theorem allR_mem {p : Nat → Prop} : ∀ {l : List Nat}, allR l p → ∀ j ∈ l, p j
  | [], _, j, hj => by simp at hj
  | [k], h, j, hj => by simp at hj; subst hj; exact h
  | k :: k2 :: l, h, j, hj => by
    simp only [List.mem_cons] at hj
    rcases hj with rfl | hj
    · exact h.1
    · exact allR_mem h.2 j (by simp only [List.mem_cons]; exact hj)

theorem mem_dsts_get {l : List Oper} {j : Nat} {o : Oper} (h : l[j]? = some o) {d : Nat} (hd : o.dst = some d) : d ∈ dsts l := by
  induction l generalizing j with
  | nil => simp at h
  | cons x l ih =>
    cases j with
    | zero => simp at h; subst h; exact mem_dsts hd
    | succ j => exact dsts_tail (ih (by simpa using h))

theorem pureAt_two {ops : List Oper} {L : Array Bool} {kn : List (Nat × Bool)} {j : Nat} (h : pureAt ops L j = true) : pureAt2 ops L kn j = true := by
  unfold pureAt at h
  unfold pureAt2
  split at h
  · cases h
  · rename_i o ho
    simp only [Bool.and_eq_true, Option.isNone_iff_eq_none] at h
    obtain ⟨h1, h2, h3⟩ := h
    simp only [h2, h3, h1, Bool.true_and]

theorem execAny_sound {p : Array Bool → List (Nat × Bool) → Nat → Bool} (hp : ∀ L kn j, p L kn j = true → pureAt2 ops L kn j = true) {K : F → H → Prop} {N : Act → World → Prop} (hs : Region.noSelect ops.toArray = true) (hd : ∀ d ∈ dsts ops, d < n ∧ d ∈ W)
    (fin : ∀ f h a w, Inv n w0 h0 f h a w → Agree W fS f → K f h → N a w) :
    ∀ (m : Nat) (L : Array Bool) (kn : List (Nat × Bool)) (f : F) (h : H) (a : Act) (w : World), KnOk kn f → Inv n w0 h0 f h a w → Agree W fS f →
      execAny P ops p K m L kn f h → wpAny P .any ops.toArray (NQ N) m L a w
  | 0, L, kn, f, h, a, w, hkn, hi, hag, hx => by
    unfold execAny at hx
    split at hx
    · rename_i hr; exact ⟨hr, fin f h a w hi hag hx⟩
    · exact hx.elim
  | m + 1, L, kn, f, h, a, w, hkn, hi, hag, hx => by
    unfold execAny at hx
    split at hx
    · rename_i hr
      exact ⟨fun _ => fin f h a w hi hag hx, by rw [hr]; simp⟩
    · rename_i i is hr
      have go : ∀ j, anyStep P ops f h kn j (fun kn' f' h' => execAny P ops p K m (L.setIfInBounds j true) kn' f' h') → wpOp P ops.toArray (NQ N) j (wpAny P .any ops.toArray (NQ N) m (L.setIfInBounds j true)) a w := by
        intro j hj
        unfold anyStep at hj
        split at hj
        · exact hj.elim
        rename_i o ho
        have ho' : ops.toArray[j]? = some o := by simpa using ho
        have hd0 : ∀ t, o.dst = some t → t < n ∧ t ∈ W := fun t ht => hd t (mem_dsts_get ho ht)
        unfold wpOp
        simp only [ho']
        have hst := step_guard (ops := ops) hi.rel hkn hj
        generalize Region.wanted o (yielded ops.toArray a.tmps) = wnt at hst
        cases hst with
        | op kn' hkn' hop =>
          rw [if_pos rfl]
          left
          refine opVC_wp hi.rel.eval hi.holds hop (fun v w' h' g1 g2 g3 => ?_)
          exact execAny_sound hp hs hd fin m _ _ _ h' _ w' (hkn'.put _ _) ⟨hi.rel.put (fun t ht => (hd0 t ht).1) v, g1, hi.fr.trans g2⟩ (hag.put (fun t ht => (hd0 t ht).2) v) g3
        | known t d kn' hdst hrun hkn' hop =>
          rw [if_pos rfl]
          left
          unfold Oper.wp
          rw [hi.rel.eval, hrun w, Oper.upon_value, hdst]
          have hdd := hd0 d hdst
          exact execAny_sound hp hs hd fin m _ _ _ h _ w hkn' ⟨hi.rel.put (d := some d) (fun t ht => (by cases ht; exact hdd.1)) _, hi.holds, hi.fr⟩ (hag.put (d := some d) (fun t ht => (by cases ht; exact hdd.2)) _) hop
        | skip kn' hkn' hop =>
          rw [if_neg (by simp)]
          exact execAny_sound hp hs hd fin m _ _ _ h _ w (hkn'.put _ _) ⟨hi.rel.put (fun t ht => (hd0 t ht).1) undef, hi.holds, hi.fr⟩ (hag.put (fun t ht => (hd0 t ht).2) undef) hop
      split at hx
      · rename_i j hj
        have hjm := List.mem_of_find?_eq_some hj
        have hjp := hp _ _ _ (List.find?_some hj)
        unfold anyStep at hx
        split at hx
        · exact hx.elim
        rename_i o ho
        unfold pureAt2 at hjp
        simp only [ho, Bool.and_eq_true] at hjp
        obtain ⟨hp3, hp1⟩ := hjp
        have hd0 : ∀ t, o.dst = some t → t < n ∧ t ∈ W := fun t ht => hd t (mem_dsts_get ho ht)
        have ho2 : ops.toArray[j]? = some o := by simpa using ho
        have hrd : (Region.ready .any ops.toArray L).contains j = true := by rw [hr]; simpa using hjm
        have hheap : Region.wanted o (yielded ops.toArray a.tmps) = true → heapFree o.op = true := by
          intro hwt
          cases hg : o.guard with
          | none => simpa only [hg] using hp1
          | some ib =>
            obtain ⟨i, b⟩ := ib
            have hw : ∀ y, Region.wanted o y = (y i == some b) := fun y => by simp [Region.wanted, hg]
            simp only [hg] at hp1
            split at hp1
            · rename_i hs1
              rw [hw, yielded_none hs1] at hwt
              simp at hwt
            · rename_i s hs1
              split at hp1
              · rename_i t ht
                rw [hw, yielded_of hi.rel hs1, hkn s t ht] at hwt
                cases t <;> cases b <;> first | exact hp1 | (simp at hwt; done)
              · exact hp1
        have hst := step_guard (ops := ops) hi.rel hkn hx
        generalize hwt : Region.wanted o (yielded ops.toArray a.tmps) = wnt at hst
        cases hst with
        | op kn' hkn' hop =>
          obtain ⟨v, hv, hk⟩ := readVC_sound (heapFree_opVC (hheap hwt) hop)
          have hy : Yields P ops.toArray o v a := .inl ⟨hwt, fun w' => by rw [hi.rel.eval]; exact hv w' (holds_empty w')⟩
          refine wpAny_take ho2 hs hp3 hrd (fun c a w h => h.elim) hy ?_
          exact execAny_sound hp hs hd fin m _ _ _ h _ w (hkn'.put _ _) ⟨hi.rel.put (fun t ht => (hd0 t ht).1) v, hi.holds, hi.fr⟩ (hag.put (fun t ht => (hd0 t ht).2) v) hk
        | known t d kn' hdst hrun hkn' hop =>
          have hy : Yields P ops.toArray o (.bool t) a := .inl ⟨hwt, fun w' => by rw [hi.rel.eval]; exact hrun w'⟩
          refine wpAny_take ho2 hs hp3 hrd (fun c a w h => h.elim) hy ?_
          have hdd := hd0 d hdst
          rw [hdst]
          exact execAny_sound hp hs hd fin m _ _ _ h _ w hkn' ⟨hi.rel.put (d := some d) (fun t ht => (by cases ht; exact hdd.1)) _, hi.holds, hi.fr⟩ (hag.put (d := some d) (fun t ht => (by cases ht; exact hdd.2)) _) hop
        | skip kn' hkn' hop =>
          refine wpAny_take ho2 hs hp3 hrd (fun c a w h => h.elim) (v := undef) (.inr ⟨hwt, rfl⟩) ?_
          exact execAny_sound hp hs hd fin m _ _ _ h _ w (hkn'.put _ _) ⟨hi.rel.put (fun t ht => (hd0 t ht).1) undef, hi.holds, hi.fr⟩ (hag.put (fun t ht => (hd0 t ht).2) undef) hop
      · exact wpAny_all hr (by simp) (fun j hj => go j (allR_mem hx j hj))

theorem regionVC_sound {i : Nat} {arr : Array Oper} {draw : Bool} {tail : Option Nat} {Q : Exit → F → H → Prop} {f : F} {h : H} {a : Act} {w : World} (hm : P.follows .mixedOrders = true)
    (hd : ∀ d ∈ dsts arr.toList, d < n) (hi : Inv n w0 h0 f h a w) (hx : regionVC P arr.toList draw tail (Q .normal) f h) :
    (Code.region i arr draw).wp P (PostQ n w0 h0 (dsts arr.toList) f Q) a w := by
  have hd' : ∀ d ∈ dsts arr.toList, d < n ∧ d ∈ dsts arr.toList := fun d h => ⟨hd d h, h⟩
  have hkn : KnOk [] f := fun s t h => by simp [knGet] at h
  unfold regionVC at hx
  cases draw <;> simp only [cond_true, cond_false] at hx
  · refine wp_region_list ?_
    have := execOps_seq (ops := arr.toList) (Q := PostQ n w0 h0 (dsts arr.toList) f Q) (fS := f) (W := dsts arr.toList) (fun f' h' a' w' g1 g2 g3 => ⟨f', h', g1, g2, g3⟩) arr.toList [] f h a w hd' hkn hi (Agree.refl _ _) hx
    simpa using this
  · cases tail with
    | none =>
      obtain ⟨hB, hx⟩ := cond_some hx
      refine wp_region_still hm (by simpa using hB) ?_
      have := execOps_still (ops := arr.toList) (fS := f) (W := dsts arr.toList) (L := fun a' => PostQ n w0 h0 (dsts arr.toList) f Q .normal a' { w with drawn := w.drawn + 1 }) (drew_holds hi.holds)
        (fun f' a' g1 g2 g3 => ⟨f', h, ⟨g1, drew_holds hi.holds, hi.fr.trans (drew_fr w h)⟩, g2, g3⟩) arr.toList [] f a hd' hkn hi.rel (Agree.refl _ _) hx
      simpa using this
    | some m =>
      cases hmm : Nat.beq m 1000000 <;> simp only [hmm, cond_true, cond_false] at hx
      · cases hm2 : Nat.beq m 1000001 <;> simp only [hm2, cond_true, cond_false] at hx
        · obtain ⟨hB, hx⟩ := cond_some hx
          have := execOps_still (ops := arr.toList) (fS := f) (W := dsts arr.toList) (L := fun a' => wpList P arr.toList.toArray (PostQ n w0 h0 (dsts arr.toList) f Q) (arr.toList.drop m) a' { w with drawn := w.drawn + 1 }) (drew_holds hi.holds)
            (fun f' a' g1 g2 g3 => execOps_seq (ops := arr.toList) (fS := f) (W := dsts arr.toList) (fun f2 h2 a2 w2 k1 k2 k3 => ⟨f2, h2, k1, k2, k3⟩) (arr.toList.drop m) [] f' h a' _
              (fun d hdm => hd' d (dsts_drop _ _ _ hdm)) (fun s t h => by simp [knGet] at h) ⟨g1, drew_holds hi.holds, hi.fr.trans (drew_fr w h)⟩ g2 g3)
            (arr.toList.take m) [] f a (fun d hdm => hd' d (dsts_take _ _ _ hdm)) hkn hi.rel (Agree.refl _ _) hx
          have h2 := wp_region_still_tail (P := P) (id := i) (Q := PostQ n w0 h0 (dsts arr.toList) f Q) (l := arr.toList) m hm hB this
          simpa using h2
        · obtain ⟨hB, hx⟩ := cond_some hx
          have h1 := execAny_sound (P := P) (hp := fun _ _ _ h => h) (fS := f) (W := dsts arr.toList) (N := fun a' w' => PostQ n w0 h0 (dsts arr.toList) f Q .normal a' w') hB hd' (fun f' h' a' w' g1 g2 g3 => ⟨f', h', g1, g2, g3⟩)
            arr.toList.length (Array.replicate arr.toList.length false) [] f h a { w with drawn := w.drawn + 1 } hkn hi.drew (Agree.refl _ _) hx
          have h2 : wpAny P .any arr (NQ fun a' w' => PostQ n w0 h0 (dsts arr.toList) f Q .normal a' w') arr.size (Array.replicate arr.size false) a { w with drawn := w.drawn + 1 } := by simpa using h1
          refine wp_mono (wp_region_any (id := i) hm h2) (fun e a' w' hq => ?_)
          cases e <;> first | exact hq | exact hq.elim
      · obtain ⟨hB, hx⟩ := cond_some hx
        have h1 := execAny_sound (P := P) (hp := fun _ _ _ h => pureAt_two h) (fS := f) (W := dsts arr.toList) (N := fun a' w' => PostQ n w0 h0 (dsts arr.toList) f Q .normal a' w') hB hd' (fun f' h' a' w' g1 g2 g3 => ⟨f', h', g1, g2, g3⟩)
          arr.toList.length (Array.replicate arr.toList.length false) [] f h a { w with drawn := w.drawn + 1 } hkn hi.drew (Agree.refl _ _) hx
        have h2 : wpAny P .any arr (NQ fun a' w' => PostQ n w0 h0 (dsts arr.toList) f Q .normal a' w') arr.size (Array.replicate arr.size false) a { w with drawn := w.drawn + 1 } := by simpa using h1
        refine wp_mono (wp_region_any (id := i) hm h2) (fun e a' w' hq => ?_)
        cases e <;> first | exact hq | exact hq.elim

/-! ### relations over slots -/

theorem memB_iff {t : Nat} : ∀ {W : List Nat}, memB t W = true ↔ t ∈ W
  | [] => by simp [memB]
  | d :: W => by
    unfold memB
    cases hb : Nat.beq t d
    · rw [cond_false, memB_iff, List.mem_cons]
      refine ⟨.inr, fun h => h.resolve_left fun e => ?_⟩
      rw [e, Nat.beq_refl] at hb; cases hb
    · rw [cond_true, List.mem_cons]
      exact ⟨fun _ => .inl (Nat.eq_of_beq_eq_true hb), fun _ => rfl⟩

theorem merge_agree {f f' : F} {W : List Nat} (h : Agree W f f') : merge f W f' = f' := by
  funext t
  show cond (memB t W) (f' t) (f t) = f' t
  cases hb : memB t W
  · rw [cond_false]
    exact (h t (fun hm => by rw [memB_iff.2 hm] at hb; cases hb)).symm
  · rfl

theorem appS_allS {k : F → H → Prop} : ∀ {S : Sl} {R : RelTy S} {f : F} {h : H}, appS S R f h → allS S R f k → ∃ h2, Gh h h2 ∧ k f h2
  | [], R, f, h, ⟨h2, g, hr⟩, hall => ⟨h2, g, hall h2 hr⟩
  | p :: S, R, f, h, ha, hall => by
    obtain ⟨x, hx, ha⟩ := Kd.elim_spec _ _ _ ha
    have := hall x
    rw [upd_self hx] at this
    exact appS_allS ha this

theorem Inv.gh {f : F} {h h2 : H} {a : Act} {w : World} (i : Inv n w0 h0 f h a w) (g : Gh h h2) : Inv n w0 h0 f h2 a w := ⟨i.rel, g.holds w i.holds, i.fr.trans (g.fr w)⟩

end

section
variable {P : Program} {n : Nat} {w0 : World} {h0 : H}

theorem wrap_sound {c : Code} {g : Hint} {Q : Exit → F → H → Prop} {f : F} {h : H} {a : Act} {w : World} {body : Hint → (Exit → F → H → Prop) → Prop}
    (hx : wrap g (writes c) Q f h body) (hb : ∀ g Q, body g Q → c.wp P (PostQ n w0 h0 (writes c) f Q) a w) : c.wp P (PostQ n w0 h0 (writes c) f Q) a w := by
  unfold wrap at hx
  split at hx
  · obtain ⟨R, h1, h2⟩ := hx
    refine wp_mono (hb _ _ h1) (fun e a' w' hq => ?_)
    obtain ⟨f', h', g1, g2, g3⟩ := hq
    cases e with
    | normal =>
      have := h2 f'
      rw [merge_agree g2] at this
      obtain ⟨h3, g4, g5⟩ := appS_allS g3 this
      exact ⟨f', h3, g1.gh g4, g2, g5⟩
    | exit id => exact ⟨f', h', g1, g2, g3⟩
    | goto l => exact ⟨f', h', g1, g2, g3⟩
    | ret => exact ⟨f', h', g1, g2, g3⟩
    | panic ch => exact ⟨f', h', g1, g2, g3⟩
    | outgrown => exact ⟨f', h', g1, g2, g3⟩
  · exact hb _ _ hx

theorem exec_sound (hm : P.follows .mixedOrders = true) : ∀ (c : Code) (g : Hint) (Q : Exit → F → H → Prop) (f : F) (h : H) (a : Act) (w : World), (∀ d ∈ writes c, d < n) → Inv n w0 h0 f h a w → exec P c g Q f h →
    c.wp P (PostQ n w0 h0 (writes c) f Q) a w
  | .skip, g, Q, f, h, a, w, _, hi, hx => wp_skip ⟨f, h, hi, Agree.refl _ _, hx⟩
  | .ret, g, Q, f, h, a, w, _, hi, hx => wp_ret ⟨f, h, hi, Agree.refl _ _, hx⟩
  | .exit id, g, Q, f, h, a, w, _, hi, hx => wp_exit ⟨f, h, hi, Agree.refl _ _, hx⟩
  | .region i arr draw, g, Q, f, h, a, w, hd, hi, hx => wrap_sound hx fun g Q hb => regionVC_sound hm hd hi hb
  | .seq x y, g, Q, f, h, a, w, hd, hi, hx => wrap_sound hx fun g Q hb => by
    have hdx : ∀ d ∈ writes x, d < n := fun d h => hd d (by simp [writes, h])
    have hdy : ∀ d ∈ writes y, d < n := fun d h => hd d (by simp [writes, h])
    refine wp_seq (wp_mono (exec_sound hm x g.l _ f h a w hdx hi hb) (fun e a' w' hq => ?_))
    obtain ⟨f', h', g1, g2, g3⟩ := hq
    cases e with
    | normal =>
      refine wp_mono (exec_sound hm y g.r _ f' h' a' w' hdy g1 g3) (fun e2 a2 w2 ⟨f2, h2, k1, k2, k3⟩ => ⟨f2, h2, k1, g2.trans k2 (fun t ht => by simp [writes, ht]) (fun t ht => by simp [writes, ht]), k3⟩)
    | exit id => exact ⟨f', h', g1, fun t ht => g2 t (fun hm => ht (by simp [writes, hm])), g3⟩
    | goto l => exact ⟨f', h', g1, fun t ht => g2 t (fun hm => ht (by simp [writes, hm])), g3⟩
    | ret => exact ⟨f', h', g1, fun t ht => g2 t (fun hm => ht (by simp [writes, hm])), g3⟩
    | panic ch => exact ⟨f', h', g1, fun t ht => g2 t (fun hm => ht (by simp [writes, hm])), g3⟩
    | outgrown => exact ⟨f', h', g1, fun t ht => g2 t (fun hm => ht (by simp [writes, hm])), g3⟩
  | .cond c x y, g, Q, f, h, a, w, hd, hi, hx => wrap_sound hx fun g Q hb => by
    have hdx : ∀ d ∈ writes x, d < n := fun d h => hd d (by simp [writes, h])
    have hdy : ∀ d ∈ writes y, d < n := fun d h => hd d (by simp [writes, h])
    split at hb
    · rename_i t ht
      have he : a.eval c = .bool t := by rw [hi.rel.eval]; exact ht
      cases t
      · refine wp_cond he (wp_mono (exec_sound hm y g.r Q f h a w hdy hi (hb.2 rfl)) (fun e2 a2 w2 ⟨f2, h2, k1, k2, k3⟩ => ⟨f2, h2, k1, fun t ht => k2 t (fun hm => ht (by simp [writes, hm])), k3⟩))
      · refine wp_cond he (wp_mono (exec_sound hm x g.l Q f h a w hdx hi (hb.1 rfl)) (fun e2 a2 w2 ⟨f2, h2, k1, k2, k3⟩ => ⟨f2, h2, k1, fun t ht => k2 t (fun hm => ht (by simp [writes, hm])), k3⟩))
    · exact hb.elim
  | .block id c, g, Q, f, h, a, w, hd, hi, hx => wrap_sound hx fun g Q hb => by
    refine wp_block (wp_mono (exec_sound hm c g.l _ f h a w hd hi hb) (fun e a' w' hq => ?_))
    obtain ⟨f', h', g1, g2, g3⟩ := hq
    cases e with
    | exit id' =>
      show if id' = id then PostQ n w0 h0 _ f Q .normal a' w' else PostQ n w0 h0 _ f Q (.exit id') a' w'
      by_cases hid : id' = id
      · subst hid
        simp only [Nat.beq_refl, cond_true] at g3
        rw [if_pos rfl]
        exact ⟨f', h', g1, g2, g3⟩
      · have : Nat.beq id' id = false := by
          cases hb : Nat.beq id' id
          · rfl
          · exact absurd (Nat.eq_of_beq_eq_true hb) hid
        simp only [this, cond_false] at g3
        rw [if_neg hid]
        exact ⟨f', h', g1, g2, g3⟩
    | normal => exact ⟨f', h', g1, g2, g3⟩
    | goto l => exact ⟨f', h', g1, g2, g3⟩
    | ret => exact ⟨f', h', g1, g2, g3⟩
    | panic ch => exact ⟨f', h', g1, g2, g3⟩
    | outgrown => exact ⟨f', h', g1, g2, g3⟩
  | .loop c, g, Q, f, h, a, w, hd, hi, hx => by
    unfold exec at hx
    split at hx
    · rename_i S g'
      obtain ⟨I, ⟨n1, hn1⟩, hround⟩ := hx
      refine wp_loop_ghost (fun m a w => ∃ f1 h1, Inv n w0 h0 f1 h1 a w ∧ Agree (writes c) f f1 ∧ appS S (I m) f1 h1) n1 ⟨f, h, hi, Agree.refl _ _, hn1⟩ ?_
      rintro m a1 w1 ⟨f1, h1, i1, ag1, ap1⟩
      have hr := hround m f1
      rw [merge_agree ag1] at hr
      obtain ⟨h2, gh2, hb⟩ := appS_allS ap1 hr
      refine wp_mono (exec_sound hm c g' _ f1 h2 a1 w1 hd (i1.gh gh2) hb) (fun e a' w' hq => ?_)
      obtain ⟨f', h', g1, g2, g3⟩ := hq
      have agt : Agree (writes c) f f' := ag1.trans g2 (fun _ h => h) (fun _ h => h)
      cases e with
      | normal =>
        obtain ⟨m', hlt, hap⟩ := g3
        exact ⟨m', hlt, f', h', g1, agt, hap⟩
      | exit id => exact ⟨f', h', g1, agt, g3⟩
      | goto l => exact ⟨f', h', g1, agt, g3⟩
      | ret => exact ⟨f', h', g1, agt, g3⟩
      | panic ch => exact ⟨f', h', g1, agt, g3⟩
      | outgrown => exact ⟨f', h', g1, agt, g3⟩
    · exact hx.elim
  | .rangeFunc _ _ _ _, g, Q, f, h, a, w, _, _, hx => by simp only [exec] at hx
  | .scope _, g, Q, f, h, a, w, _, _, hx => by simp only [exec] at hx
  | .label _, g, Q, f, h, a, w, _, _, hx => by simp only [exec] at hx
  | .goto _, g, Q, f, h, a, w, _, _, hx => by simp only [exec] at hx
  | .refuse _, g, Q, f, h, a, w, _, _, hx => by simp only [exec] at hx

/-! ### a function -/

def resOne (tmps : Array Value) (r : ResultVar) : Sem Value :=
  match r with
  | .tmp t => pure (tmps.getD t undef)
  | .cell a t => do loadVar t (← asAddr (tmps.getD a undef))

theorem resOne_tmp {f : F} {tmps : Array Value} {w : World} (hget : ∀ t, tmps.getD t undef = f t) (t : Tmp) : (resOne tmps (.tmp t)).run P w = .ok (f t) w := by
  simp only [resOne, Sem.run_pure, hget]
theorem resOne_cell {f : F} {tmps : Array Value} {w : World} (hget : ∀ t, tmps.getD t undef = f t) {a t : Nat} {ad : Addr} (had : f a = .pointer (some ad)) {v : Value} (hl : (loadVar t ad).run P w = .ok v w) :
    (resOne tmps (.cell a t)).run P w = .ok v w := by
  simp only [resOne, Sem.run_bind, hget, had, asAddr, Sem.run_pure, Result.andThen_ok, hl]

theorem resList_sound {f : F} {h : H} {tmps : Array Value} {w : World} (hget : ∀ t, tmps.getD t undef = f t) (hw : Holds w h) : ∀ (rs : List ResultVar) (K : List Value → Prop), resList P f h rs K →
    ∃ vs, (rs.mapM (resOne tmps)).run P w = .ok vs w ∧ K vs
  | [], K, hx => ⟨[], rfl, hx⟩
  | .tmp t :: rs, K, hx => by
    obtain ⟨vs, h1, h2⟩ := resList_sound hget hw rs _ hx
    refine ⟨f t :: vs, ?_, h2⟩
    simp only [List.mapM_cons, Sem.run_bind, resOne_tmp hget, Result.andThen_ok, h1, Sem.run_pure]
  | .cell a t :: rs, K, hx => by
    simp only [resList] at hx
    split at hx
    · rename_i ad had
      obtain ⟨ht, hx⟩ := cond_some hx
      obtain ⟨v, h1, h2⟩ := run_loadVar_get (a := ad) ht hx
      have h1 := h1 w (fun j v hv => rd_sound hw hv)
      obtain ⟨vs, h3, h4⟩ := resList_sound hget hw rs _ h2
      refine ⟨v :: vs, ?_, h4⟩
      simp only [List.mapM_cons, Sem.run_bind, resOne_cell hget had h1, Sem.run_pure, Result.andThen_ok, h3]
    · exact hx.elim

theorem results_eq (fn : Func) (tmps : Array Value) : results fn tmps = (do let vs ← fn.results.mapM (resOne tmps); pure (if h : vs.size = 1 then vs[0] else .tuple vs)) := by
  unfold results
  have e : (fun (x : ResultVar) => match x with | .tmp t => pure (tmps.getD t undef) | .cell a t => do loadVar t (← asAddr (tmps.getD a undef)) : ResultVar → Sem Value) = resOne tmps := by
    funext r; cases r <;> rfl
  rw [← e]
  rfl

theorem results_one {fn : Func} {tmps : Array Value} {w : World} {vs : List Value} (h : (fn.results.toList.mapM (resOne tmps)).run P w = .ok vs w) :
    (results fn tmps).run P w = .ok (one vs) w := by
  rw [results_eq, Sem.run_bind, Array.mapM_eq_mapM_toList, Sem.run_map, h]
  simp only [Result.andThen_ok, Sem.run_pure]
  congr 1
  match vs with
  | [] => rfl
  | [v] => rfl
  | _ :: _ :: _ => rfl

theorem sem_of_exec {fid : FuncId} {fn : Func} {c : Code} {g : Hint} {args : List Value} {h : H} {post : Value → H → Prop} (hm : P.follows .mixedOrders = true) (hf : P.funcs[fid]? = some fn) (hb : fn.body = some c)
    (hn : (Nat.ble args.length fn.ntmps && (writes c).all fun d => Nat.ble (d + 1) fn.ntmps) = true) (hx : exec P c g (retQ P fn post) (F0 args) h) : SemCall P fid args.toArray h post := by
  intro w hw
  rw [Bool.and_eq_true] at hn
  have hle := Nat.le_of_ble_eq_true hn.1
  have hd : ∀ d ∈ writes c, d < fn.ntmps := fun d hd => Nat.le_of_ble_eq_true (List.all_eq_true.1 hn.2 d hd)
  refine calls_of_wp hf hb ?_
  have hrel : Rel fn.ntmps (F0 args) { tmps := args.toArray ++ Array.replicate (fn.ntmps - args.toArray.size) undef, defers := [] } := by
    refine ⟨rfl, by simp; omega, fun t => ?_⟩
    show (args.toArray ++ Array.replicate (fn.ntmps - args.toArray.size) undef).getD t undef = args.getD t undef
    by_cases ht : t < args.length
    · simp [Array.getD, List.getD, ht, Nat.lt_add_right _ ht]
    · have e1 : args.getD t undef = undef := by simp [List.getD, List.getElem?_eq_none (Nat.le_of_not_lt ht)]
      rw [e1]
      simp only [Array.getD]
      split
      · rename_i hlt
        simp only [Array.getInternal_eq_getElem]
        rw [Array.getElem_append_right (by simpa using Nat.le_of_not_lt ht)]
        simp
      · rfl
  refine wp_mono (exec_sound (w0 := w) (h0 := h) hm c g _ _ h _ w hd ⟨hrel, hw, Fr.refl w h⟩ hx) (fun e a' w' hq => ?_)
  obtain ⟨f', h', g1, _, g3⟩ := hq
  have fin : resList P f' h' fn.results.toList (fun vs => VRet h' (one vs) post) → a'.defers = [] ∧ ∃ v, (results fn a'.tmps).run P w' = .ok v w' ∧ (∃ v0 h2, Ending.returned v = .returned v0 ∧ Holds w' h2 ∧ Fr w w' h h2 ∧ post v0 h2) := by
    intro hr
    obtain ⟨vs, k1, h2, k2, k3⟩ := resList_sound (P := P) g1.rel.get g1.holds _ _ hr
    exact ⟨g1.rel.defers, one vs, results_one k1, one vs, h2, rfl, k2.holds w' g1.holds, g1.fr.trans (k2.fr w'), k3⟩
  cases e with
  | normal => exact fin g3
  | ret => exact fin g3
  | exit id => exact g3.elim
  | goto l => exact g3.elim
  | panic ch => exact g3.elim
  | outgrown => exact g3.elim

end
end Go.Eng

namespace Go.Eng
def bodyOf (fn : Func) : Code := fn.body.getD .skip
theorem bodyOf_eq {fn : Func} (h : fn.body.isSome = true) : fn.body = some (bodyOf fn) := by
  unfold bodyOf
  cases hb : fn.body with
  | none => simp [hb] at h
  | some c => rfl
end Go.Eng
