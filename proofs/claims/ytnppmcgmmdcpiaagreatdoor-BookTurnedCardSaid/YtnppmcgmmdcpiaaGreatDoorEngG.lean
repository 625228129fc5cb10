import Derived.Test.YtnppmcgmmdcpiaaGreatDoorEngF
/- The engine, seventh part: regions, code, calls. -/
namespace Go.Eng
open Go.RowKit

structure Rel (n : Nat) (f : F) (a : Act) : Prop where
  defers : a.defers = []
  size : a.tmps.size = n
  get : ∀ t, a.tmps.getD t undef = f t

theorem Rel.eval {n : Nat} {f : F} {a : Act} (hr : Rel n f a) : a.eval = ev f := by
  funext x
  cases x with
  | tmp t => exact hr.get t
  | const v => rfl
  | global g => rfl
  | func m => rfl

theorem Rel.put {n : Nat} {f : F} {a : Act} (hr : Rel n f a) {d : Option Tmp} (hd : ∀ t, d = some t → t < n) (v : Value) : Rel n (put f d v) (a.put d v) := by
  cases d with
  | none => exact hr
  | some t =>
    have ht := hd t rfl
    refine ⟨hr.defers, by simp [Act.put, hr.size], fun s => ?_⟩
    have hg := hr.get s
    show (a.tmps.setIfInBounds t v).getD s undef = cond (Nat.beq s t) v (f s)
    by_cases hst : s = t
    · subst hst
      have hlt : s < a.tmps.size := by rw [hr.size]; exact ht
      have : Nat.beq s s = true := Nat.beq_refl s
      rw [this, cond_true]
      simp [Array.getD, hlt]
    · have : Nat.beq s t = false := by
        cases hb : Nat.beq s t
        · rfl
        · exact absurd (Nat.eq_of_beq_eq_true hb) hst
      rw [this, cond_false, ← hg]
      simp [Array.getElem?_setIfInBounds_ne (Ne.symm hst)]

def Agree (W : List Nat) (f f' : F) : Prop := ∀ t, t ∉ W → f' t = f t

theorem Agree.refl (W : List Nat) (f : F) : Agree W f f := fun _ _ => rfl
theorem Agree.put {W : List Nat} {f f' : F} (h : Agree W f f') {d : Option Tmp} (hd : ∀ t, d = some t → t ∈ W) (v : Value) : Agree W f (put f' d v) := by
  intro s hs
  cases d with
  | none => exact h s hs
  | some t =>
    have hne : s ≠ t := fun e => hs (e ▸ hd t rfl)
    show cond (Nat.beq s t) v (f' s) = f s
    have : Nat.beq s t = false := by
      cases hb : Nat.beq s t
      · rfl
      · exact absurd (Nat.eq_of_beq_eq_true hb) hne
    rw [this, cond_false]
    exact h s hs
theorem Agree.trans {W W1 W2 : List Nat} {f f1 f2 : F} (h1 : Agree W1 f f1) (h2 : Agree W2 f1 f2) (hw1 : ∀ t ∈ W1, t ∈ W) (hw2 : ∀ t ∈ W2, t ∈ W) : Agree W f f2 :=
  fun t ht => (h2 t (fun h => ht (hw2 t h))).trans (h1 t (fun h => ht (hw1 t h)))

theorem upd_self {f : F} {s : Nat} {v : Value} (h : f s = v) : upd f s v = f := by
  funext t
  show cond (Nat.beq t s) v (f t) = f t
  cases hb : Nat.beq t s
  · rfl
  · rw [Nat.eq_of_beq_eq_true hb, h]; rfl

structure Inv (n : Nat) (w0 : World) (h0 : H) (f : F) (h : H) (a : Act) (w : World) : Prop where
  rel : Rel n f a
  holds : Holds w h
  fr : Fr w0 w h0 h

theorem drew_holds {w : World} {h : H} (hw : Holds w h) : Holds { w with drawn := w.drawn + 1 } h :=
  ⟨hw.nd, fun e he => ⟨(hw.ok e he).row, (hw.ok e he).head, (hw.ok e he).shp⟩, hw.ro, hw.ap⟩
theorem drew_fr (w : World) (h : H) : Fr w { w with drawn := w.drawn + 1 } h h :=
  ⟨rfl, rfl, rfl, Nat.le_refl _, fun _ _ => rfl, fun _ _ _ => rfl, fun e he _ hr => .inl ⟨e, he, hr⟩, fun _ _ x => x, fun _ _ x => .inl x⟩
theorem Inv.drew {n : Nat} {w0 : World} {h0 : H} {f : F} {h : H} {a : Act} {w : World} (i : Inv n w0 h0 f h a w) : Inv n w0 h0 f h a { w with drawn := w.drawn + 1 } :=
  ⟨i.rel, drew_holds i.holds, i.fr.trans (drew_fr w h)⟩

theorem memB_iff {t : Nat} : ∀ {W : List Nat}, memB t W = true ↔ t ∈ W
  | [] => by simp [memB]
  | d :: W => by
    unfold memB
    cases hb : Nat.beq t d
    · rw [cond_false, memB_iff, List.mem_cons]
      refine ⟨.inr, fun h => h.resolve_left fun e => ?_⟩
      rw [e, Nat.beq_refl] at hb; cases hb
    · rw [cond_true, List.mem_cons]
      exact ⟨fun _ => .inl (Nat.eq_of_beq_eq_true hb), fun _ => rfl⟩

/-- rows in another order -/
theorem Gh.perm2 {own own' : List Ent} {ro : Addr → Option Value} (h : own'.Perm own) : Gh ⟨own, ro⟩ ⟨own', ro⟩ :=
  ⟨fun _ hw => ⟨(List.Perm.nodup_iff (h.filterMap _)).2 hw.nd, fun e he => hw.ok e (h.mem_iff.1 he), hw.ro, fun a v hv e he => hw.ap a v hv e (h.mem_iff.1 he)⟩, fun e he _ hr => ⟨e, h.mem_iff.1 he, hr⟩, fun _ _ x => x, fun _ _ x => .inl x⟩
theorem Inv.gh2 {n : Nat} {w0 : World} {h0 : H} {f : F} {h h2 : H} {a : Act} {w : World} (i : Inv n w0 h0 f h a w) (g : Gh h h2) : Inv n w0 h0 f h2 a w := ⟨i.rel, g.holds w i.holds, i.fr.trans (g.fr w)⟩

def KnOk (kn : List (Nat × Bool)) (f : F) : Prop := ∀ s t, knGet kn s = some t → f s = .bool t

theorem knGet_filter {d : Nat} : ∀ {kn : List (Nat × Bool)} {s : Nat} {t : Bool}, knGet (kn.filter fun p => !(Nat.beq p.1 d)) s = some t → s ≠ d ∧ knGet kn s = some t
  | [], _, _, h => by simp [knGet] at h
  | p :: kn, s, t, h => by
    rw [List.filter_cons] at h
    cases hb : Nat.beq p.1 d
    · simp only [hb, Bool.not_false, if_true] at h
      unfold knGet at h ⊢
      cases hp : Nat.beq p.1 s <;> simp only [hp, cond_true, cond_false] at h ⊢
      · exact knGet_filter h
      · refine ⟨fun e => ?_, h⟩
        have := Nat.eq_of_beq_eq_true hp
        rw [this, e, Nat.beq_refl] at hb
        cases hb
    · simp only [hb, Bool.not_true, Bool.false_eq_true, if_false] at h
      obtain ⟨h1, h2⟩ := knGet_filter h
      refine ⟨h1, ?_⟩
      unfold knGet
      have : Nat.beq p.1 s = false := by
        cases hp : Nat.beq p.1 s
        · rfl
        · exact absurd ((Nat.eq_of_beq_eq_true hp).symm.trans (Nat.eq_of_beq_eq_true hb)) h1
      rw [this, cond_false]
      exact h2

theorem KnOk.put {kn : List (Nat × Bool)} {f : F} (h : KnOk kn f) (d : Option Tmp) (v : Value) : KnOk (knDel kn d) (put f d v) := by
  intro s t hs
  cases d with
  | none => exact h s t hs
  | some d =>
    obtain ⟨h1, h2⟩ := knGet_filter hs
    show cond (Nat.beq s d) v (f s) = .bool t
    have : Nat.beq s d = false := by
      cases hb : Nat.beq s d
      · rfl
      · exact absurd (Nat.eq_of_beq_eq_true hb) h1
    rw [this, cond_false]
    exact h s t h2

theorem KnOk.cons {kn : List (Nat × Bool)} {f : F} (h : KnOk kn f) {s : Nat} {t : Bool} (hs : f s = .bool t) : KnOk ((s, t) :: kn) f := by
  intro s' t' h'
  unfold knGet at h'
  cases hb : Nat.beq s s' <;> simp only [hb, cond_true, cond_false] at h'
  · exact h s' t' h'
  · rw [← Nat.eq_of_beq_eq_true hb, hs, Option.some.inj h']

theorem yielded_of {n : Nat} {f : F} {a : Act} (hr : Rel n f a) {ops : List Oper} {j s : Nat} (hs : dstOf ops j = some s) :
    yielded ops.toArray a.tmps j = match f s with | .bool b => some b | _ => none := by
  unfold yielded
  have e1 : (ops.toArray[j]?).bind (·.dst) = some s := by simpa [dstOf] using hs
  rw [e1, Option.bind_some, ← hr.get s]
  by_cases hlt : s < a.tmps.size
  · simp [hlt]
    cases a.tmps[s] <;> rfl
  · have : a.tmps[s]? = none := Array.getElem?_eq_none (by omega)
    simp only [this, Array.getD, hlt, dite_false]
    rfl

theorem yielded_none {ops : List Oper} {tmps : Array Value} {j : Nat} (hs : dstOf ops j = none) : yielded ops.toArray tmps j = none := by
  unfold yielded
  have e1 : (ops.toArray[j]?).bind (·.dst) = none := by simpa [dstOf] using hs
  rw [e1]
  rfl

theorem mem_dsts {o : Oper} {l : List Oper} {d : Nat} (h : o.dst = some d) : d ∈ dsts (o :: l) := by simp [dsts, h]
theorem dsts_tail {o : Oper} {l : List Oper} {d : Nat} (h : d ∈ dsts l) : d ∈ dsts (o :: l) := by
  unfold dsts; cases o.dst <;> simp [h]

section
variable {P : Program} {n : Nat} {w0 : World} {h0 : H} {W : List Nat} {fS : F} {ops : List Oper}

theorem knOp_spec {kn : List (Nat × Bool)} {f : F} (hkn : KnOk kn f) {x : Operand} {t : Bool} (h : knOp kn x = some t) : ev f x = .bool t := by
  unfold knOp at h
  split at h
  · exact hkn _ _ h
  · cases h; rfl
  · cases h

theorem knOf_spec {kn : List (Nat × Bool)} {f : F} (hkn : KnOk kn f) {o : Oper} {t : Bool} (h : knOf kn o.op = some t) (w : World) : (execOp (ev f) o).run P w = .ok (.value (.bool t)) w := by
  unfold knOf at h
  split at h
  · rename_i x ho; simp only [execOp, ho, Sem.run_pure, knOp_spec hkn h]
  · rename_i x ho; simp only [execOp, ho, Sem.run_pure, knOp_spec hkn h]
  · rename_i x ho
    split at h
    · rename_i t' ht
      cases h
      simp only [execOp, ho, knOp_spec hkn ht, Op.unary, Sem.run_bind, Sem.run_pure, Result.andThen_ok]
    · cases h
  · rename_i c x y ho
    split at h
    · rename_i t' ht
      simp only [execOp, ho, knOp_spec hkn ht, asBool, Sem.run_bind, Sem.run_pure, Result.andThen_ok]
      cases t'
      · simp only [cond_false] at h; simp only [Bool.false_eq_true, if_false, knOp_spec hkn h]
      · simp only [cond_true] at h; simp only [if_true, knOp_spec hkn h]
    · cases h
  · cases h

theorem KnOk.known {kn : List (Nat × Bool)} {f : F} (h : KnOk kn f) (d : Nat) (t : Bool) : KnOk ((d, t) :: knDel kn (some d)) (upd f d (.bool t)) := by
  have h1 := h.put (some d) (.bool t)
  refine KnOk.cons h1 ?_
  show cond (Nat.beq d d) (Value.bool t) (f d) = .bool t
  rw [Nat.beq_refl]; rfl

/-- what one step of a region comes to -/
inductive Stepped' (P : Program) (still : Bool) (o : Oper) (f : F) (h : H) (K : List (Nat × Bool) → F → H → Prop) : Bool → Prop
  | op (kn : List (Nat × Bool)) (hk : KnOk kn f) (hx : opVC P still f h o fun v h' => K (knDel kn o.dst) (put f o.dst v) h') : Stepped' P still o f h K true
  | known (t : Bool) (d : Nat) (kn : List (Nat × Bool)) (hd : o.dst = some d) (hr : ∀ w, (execOp (ev f) o).run P w = .ok (.value (.bool t)) w) (hk : KnOk kn (upd f d (.bool t))) (hx : K kn (upd f d (.bool t)) h) : Stepped' P still o f h K true
  | skip (kn : List (Nat × Bool)) (hk : KnOk kn f) (hx : K (knDel kn o.dst) (put f o.dst undef) h) : Stepped' P still o f h K false

theorem stepOp_cases {still : Bool} {o : Oper} {kn : List (Nat × Bool)} {f : F} {h : H} {K : List (Nat × Bool) → F → H → Prop} (hkn : KnOk kn f) (hx : stepOp P still o kn f h K) : Stepped' P still o f h K true := by
  unfold stepOp at hx
  split at hx
  · rename_i t d ht hd
    exact .known t d _ hd (knOf_spec hkn ht) (hkn.known d t) hx
  · exact .op kn hkn hx

theorem step_guard {still : Bool} {o : Oper} {kn : List (Nat × Bool)} {f : F} {h : H} {a : Act} {K : List (Nat × Bool) → F → H → Prop} (hr : Rel n f a) (hkn : KnOk kn f)
    (hx : stepGuard P ops still o kn f h K) : Stepped' P still o f h K (Region.wanted o (yielded ops.toArray a.tmps)) := by
  unfold stepGuard at hx
  split at hx
  · rename_i hg
    rw [show Region.wanted o (yielded ops.toArray a.tmps) = true by simp [Region.wanted, hg]]
    exact stepOp_cases hkn hx
  · rename_i j b hg
    have hw : ∀ y, Region.wanted o y = (y j == some b) := fun y => by simp [Region.wanted, hg]
    split at hx
    · rename_i hs
      rw [hw, yielded_none hs]
      exact .skip kn hkn hx
    · rename_i s hs
      rw [hw, yielded_of hr hs]
      split at hx
      · rename_i t ht
        have hft := hkn s t ht
        rw [hft]
        cases t <;> cases b
        · exact stepOp_cases hkn hx
        · exact .skip kn hkn hx
        · exact .skip kn hkn hx
        · exact stepOp_cases hkn hx
      · split at hx
        · rename_i t hft
          rw [hft]
          cases t
          · have hx2 := hx.2 rfl
            rw [upd_self hft] at hx2
            cases b
            · exact stepOp_cases (hkn.cons hft) hx2
            · exact .skip _ (hkn.cons hft) hx2
          · have hx2 := hx.1 rfl
            rw [upd_self hft] at hx2
            cases b
            · exact .skip _ (hkn.cons hft) hx2
            · exact stepOp_cases (hkn.cons hft) hx2
        · rename_i hft
          rw [hft]
          exact .skip kn hkn hx
        · exact hx.elim

theorem execOps_seq {K : F → H → Prop} {Q : Exit → Act → World → Prop} (fin : ∀ f h a w, Inv n w0 h0 f h a w → Agree W fS f → K f h → Q .normal a w) :
    ∀ (l : List Oper) (kn : List (Nat × Bool)) (f : F) (h : H) (a : Act) (w : World), (∀ d ∈ dsts l, d < n ∧ d ∈ W) → KnOk kn f → Inv n w0 h0 f h a w → Agree W fS f →
      execOps P ops false K l kn f h → wpList P ops.toArray Q l a w
  | [], kn, f, h, a, w, _, _, hi, hag, hx => fin f h a w hi hag hx
  | o :: rest, kn, f, h, a, w, hd, hkn, hi, hag, hx => by
    have hd0 : ∀ t, o.dst = some t → t < n ∧ t ∈ W := fun t ht => hd t (mem_dsts ht)
    have hdr : ∀ d ∈ dsts rest, d < n ∧ d ∈ W := fun d h => hd d (dsts_tail h)
    unfold wpList
    have hst := step_guard (ops := ops) hi.rel hkn hx
    generalize Region.wanted o (yielded ops.toArray a.tmps) = wnt at hst
    cases hst with
    | op kn' hkn' hop =>
      rw [if_pos rfl]
      left
      refine opVC_wp hi.rel.eval hi.holds hop (fun v w' h' g1 g2 g3 => ?_)
      exact execOps_seq fin rest _ _ h' _ w' hdr (hkn'.put _ _) ⟨hi.rel.put (fun t ht => (hd0 t ht).1) v, g1, hi.fr.trans g2⟩ (hag.put (fun t ht => (hd0 t ht).2) v) g3
    | known t d kn' hdst hrun hkn' hop =>
      rw [if_pos rfl]
      left
      unfold Oper.wp
      rw [hi.rel.eval, hrun w, Oper.upon_value, hdst]
      have hdd := hd0 d hdst
      exact execOps_seq fin rest _ _ h _ w hdr hkn' ⟨hi.rel.put (d := some d) (fun t ht => (by cases ht; exact hdd.1)) _, hi.holds, hi.fr⟩ (hag.put (d := some d) (fun t ht => (by cases ht; exact hdd.2)) _) hop
    | skip kn' hkn' hop =>
      rw [if_neg (by simp)]
      exact execOps_seq fin rest _ _ h _ w hdr (hkn'.put _ _) ⟨hi.rel.put (fun t ht => (hd0 t ht).1) undef, hi.holds, hi.fr⟩ (hag.put (fun t ht => (hd0 t ht).2) undef) hop

theorem execOps_still {K : F → H → Prop} {L : Act → Prop} {h : H} {w : World} (hw : Holds w h) (fin : ∀ f a, Rel n f a → Agree W fS f → K f h → L a) :
    ∀ (l : List Oper) (kn : List (Nat × Bool)) (f : F) (a : Act), (∀ d ∈ dsts l, d < n ∧ d ∈ W) → KnOk kn f → Rel n f a → Agree W fS f →
      execOps P ops true K l kn f h → wpStill P ops.toArray w L l a
  | [], kn, f, a, _, _, hi, hag, hx => fin f a hi hag hx
  | o :: rest, kn, f, a, hd, hkn, hi, hag, hx => by
    have hd0 : ∀ t, o.dst = some t → t < n ∧ t ∈ W := fun t ht => hd t (mem_dsts ht)
    have hdr : ∀ d ∈ dsts rest, d < n ∧ d ∈ W := fun d h => hd d (dsts_tail h)
    unfold wpStill
    have hst := step_guard (ops := ops) hi hkn hx
    generalize Region.wanted o (yielded ops.toArray a.tmps) = wnt at hst
    cases hst with
    | op kn' hkn' hop =>
      rw [if_pos rfl]
      refine opVC_still hi.eval hw hop (fun v g3 => ?_)
      exact execOps_still hw fin rest _ _ _ hdr (hkn'.put _ _) (hi.put (fun t ht => (hd0 t ht).1) v) (hag.put (fun t ht => (hd0 t ht).2) v) g3
    | known t d kn' hdst hrun hkn' hop =>
      rw [if_pos rfl]
      unfold Oper.still
      rw [hi.eval, hrun w, Oper.stillUpon_value, hdst]
      have hdd := hd0 d hdst
      exact execOps_still hw fin rest _ _ _ hdr hkn' (hi.put (d := some d) (fun t ht => (by cases ht; exact hdd.1)) _) (hag.put (d := some d) (fun t ht => (by cases ht; exact hdd.2)) _) hop
    | skip kn' hkn' hop =>
      rw [if_neg (by simp)]
      exact execOps_still hw fin rest _ _ _ hdr (hkn'.put _ _) (hi.put (fun t ht => (hd0 t ht).1) undef) (hag.put (fun t ht => (hd0 t ht).2) undef) hop

theorem dsts_take : ∀ (l : List Oper) (m : Nat) (d : Nat), d ∈ dsts (l.take m) → d ∈ dsts l
  | [], m, d, h => by simp at h; exact h
  | o :: l, 0, d, h => by simp [dsts] at h
  | o :: l, m + 1, d, h => by
    simp only [List.take_succ_cons] at h
    cases ho : o.dst with
    | none => simp only [dsts, ho] at h ⊢; exact dsts_take l m d h
    | some t =>
      simp only [dsts, ho, List.mem_cons] at h ⊢
      exact h.imp id (dsts_take l m d)
theorem dsts_drop : ∀ (l : List Oper) (m : Nat) (d : Nat), d ∈ dsts (l.drop m) → d ∈ dsts l
  | [], m, d, h => by simp at h; exact h
  | o :: l, 0, d, h => h
  | o :: l, m + 1, d, h => by
    simp only [List.drop_succ_cons] at h
    have := dsts_drop l m d h
    exact dsts_tail this

def PostQ (n : Nat) (w0 : World) (h0 : H) (W : List Nat) (f : F) (Q : Exit → F → H → Prop) : Exit → Act → World → Prop :=
  fun e a w => ∃ f' h', Inv n w0 h0 f' h' a w ∧ Agree W f f' ∧ Q e f' h'

/-! any order -/

def emptyH : H := ⟨[], fun _ => none⟩
theorem holds_empty (w : World) : Holds w emptyH := ⟨by simp [emptyH], by simp [emptyH], fun a v h => by simp [emptyH] at h, fun a v h => by simp [emptyH] at h⟩

theorem heapFree_opVC {f : F} {h : H} {o : Oper} {K : Value → H → Prop} (hf : heapFree o.op = true) (hx : opVC P false f h o K) : readVC P f emptyH o.op fun v => K v h := by
  unfold opVC at hx
  generalize o.op = op at hf hx
  cases op <;> simp only [heapFree, Bool.false_eq_true] at hf <;> exact hx

def NQ (N : Act → World → Prop) : Exit → Act → World → Prop
  | .normal, a, w => N a w
  | _, _, _ => False

theorem allR_mem {p : Nat → Prop} : ∀ {l : List Nat}, allR l p → ∀ j ∈ l, p j
  | [], _, j, hj => by simp at hj
  | [k], h, j, hj => by simp at hj; subst hj; exact h
  | k :: k2 :: l, h, j, hj => by
    simp only [List.mem_cons] at hj
    rcases hj with rfl | hj
    · exact h.1
    · exact allR_mem h.2 j (by simp only [List.mem_cons]; exact hj)

theorem mem_dsts_get {l : List Oper} {j : Nat} {o : Oper} (h : l[j]? = some o) {d : Nat} (hd : o.dst = some d) : d ∈ dsts l := by
  induction l generalizing j with
  | nil => simp at h
  | cons x l ih =>
    cases j with
    | zero => simp at h; subst h; exact mem_dsts hd
    | succ j => exact dsts_tail (ih (by simpa using h))

theorem pureAt_two {ops : List Oper} {L : Array Bool} {kn : List (Nat × Bool)} {j : Nat} (h : pureAt ops L j = true) : pureAt2 ops L kn j = true := by
  unfold pureAt at h
  unfold pureAt2
  split at h
  · cases h
  · rename_i o ho
    simp only [Bool.and_eq_true, Option.isNone_iff_eq_none] at h
    obtain ⟨h1, h2, h3⟩ := h
    simp only [h2, h3, h1, Bool.true_and]

theorem execAny_sound {p : Array Bool → List (Nat × Bool) → Nat → Bool} (hp : ∀ L kn j, p L kn j = true → pureAt2 ops L kn j = true) {K : F → H → Prop} {N : Act → World → Prop} (hs : Region.noSelect ops.toArray = true) (hd : ∀ d ∈ dsts ops, d < n ∧ d ∈ W)
    (fin : ∀ f h a w, Inv n w0 h0 f h a w → Agree W fS f → K f h → N a w) :
    ∀ (m : Nat) (L : Array Bool) (kn : List (Nat × Bool)) (f : F) (h : H) (a : Act) (w : World), KnOk kn f → Inv n w0 h0 f h a w → Agree W fS f →
      execAny P ops p K m L kn f h → wpAny P .any ops.toArray (NQ N) m L a w
  | 0, L, kn, f, h, a, w, hkn, hi, hag, hx => by
    unfold execAny at hx
    split at hx
    · rename_i hr; exact ⟨hr, fin f h a w hi hag hx⟩
    · exact hx.elim
  | m + 1, L, kn, f, h, a, w, hkn, hi, hag, hx => by
    unfold execAny at hx
    split at hx
    · rename_i hr
      exact ⟨fun _ => fin f h a w hi hag hx, by rw [hr]; simp⟩
    · rename_i i is hr
      have go : ∀ j, anyStep P ops f h kn j (fun kn' f' h' => execAny P ops p K m (L.setIfInBounds j true) kn' f' h') → wpOp P ops.toArray (NQ N) j (wpAny P .any ops.toArray (NQ N) m (L.setIfInBounds j true)) a w := by
        intro j hj
        unfold anyStep at hj
        split at hj
        · exact hj.elim
        rename_i o ho
        have ho' : ops.toArray[j]? = some o := by simpa using ho
        have hd0 : ∀ t, o.dst = some t → t < n ∧ t ∈ W := fun t ht => hd t (mem_dsts_get ho ht)
        unfold wpOp
        simp only [ho']
        have hst := step_guard (ops := ops) hi.rel hkn hj
        generalize Region.wanted o (yielded ops.toArray a.tmps) = wnt at hst
        cases hst with
        | op kn' hkn' hop =>
          rw [if_pos rfl]
          left
          refine opVC_wp hi.rel.eval hi.holds hop (fun v w' h' g1 g2 g3 => ?_)
          exact execAny_sound hp hs hd fin m _ _ _ h' _ w' (hkn'.put _ _) ⟨hi.rel.put (fun t ht => (hd0 t ht).1) v, g1, hi.fr.trans g2⟩ (hag.put (fun t ht => (hd0 t ht).2) v) g3
        | known t d kn' hdst hrun hkn' hop =>
          rw [if_pos rfl]
          left
          unfold Oper.wp
          rw [hi.rel.eval, hrun w, Oper.upon_value, hdst]
          have hdd := hd0 d hdst
          exact execAny_sound hp hs hd fin m _ _ _ h _ w hkn' ⟨hi.rel.put (d := some d) (fun t ht => (by cases ht; exact hdd.1)) _, hi.holds, hi.fr⟩ (hag.put (d := some d) (fun t ht => (by cases ht; exact hdd.2)) _) hop
        | skip kn' hkn' hop =>
          rw [if_neg (by simp)]
          exact execAny_sound hp hs hd fin m _ _ _ h _ w (hkn'.put _ _) ⟨hi.rel.put (fun t ht => (hd0 t ht).1) undef, hi.holds, hi.fr⟩ (hag.put (fun t ht => (hd0 t ht).2) undef) hop
      split at hx
      · rename_i j hj
        have hjm := List.mem_of_find?_eq_some hj
        have hjp := hp _ _ _ (List.find?_some hj)
        unfold anyStep at hx
        split at hx
        · exact hx.elim
        rename_i o ho
        unfold pureAt2 at hjp
        simp only [ho, Bool.and_eq_true] at hjp
        obtain ⟨hp3, hp1⟩ := hjp
        have hd0 : ∀ t, o.dst = some t → t < n ∧ t ∈ W := fun t ht => hd t (mem_dsts_get ho ht)
        have ho2 : ops.toArray[j]? = some o := by simpa using ho
        have hrd : (Region.ready .any ops.toArray L).contains j = true := by rw [hr]; simpa using hjm
        have hheap : Region.wanted o (yielded ops.toArray a.tmps) = true → heapFree o.op = true := by
          intro hwt
          cases hg : o.guard with
          | none => simpa only [hg] using hp1
          | some ib =>
            obtain ⟨i, b⟩ := ib
            have hw : ∀ y, Region.wanted o y = (y i == some b) := fun y => by simp [Region.wanted, hg]
            simp only [hg] at hp1
            split at hp1
            · rename_i hs1
              rw [hw, yielded_none hs1] at hwt
              simp at hwt
            · rename_i s hs1
              split at hp1
              · rename_i t ht
                rw [hw, yielded_of hi.rel hs1, hkn s t ht] at hwt
                cases t <;> cases b <;> first | exact hp1 | (simp at hwt; done)
              · exact hp1
        have hst := step_guard (ops := ops) hi.rel hkn hx
        generalize hwt : Region.wanted o (yielded ops.toArray a.tmps) = wnt at hst
        cases hst with
        | op kn' hkn' hop =>
          obtain ⟨v, hv, hk⟩ := readVC_sound (heapFree_opVC (hheap hwt) hop)
          have hy : Yields P ops.toArray o v a := .inl ⟨hwt, fun w' => by rw [hi.rel.eval]; exact hv w' (holds_empty w')⟩
          refine wpAny_take ho2 hs hp3 hrd (fun c a w h => h.elim) hy ?_
          exact execAny_sound hp hs hd fin m _ _ _ h _ w (hkn'.put _ _) ⟨hi.rel.put (fun t ht => (hd0 t ht).1) v, hi.holds, hi.fr⟩ (hag.put (fun t ht => (hd0 t ht).2) v) hk
        | known t d kn' hdst hrun hkn' hop =>
          have hy : Yields P ops.toArray o (.bool t) a := .inl ⟨hwt, fun w' => by rw [hi.rel.eval]; exact hrun w'⟩
          refine wpAny_take ho2 hs hp3 hrd (fun c a w h => h.elim) hy ?_
          have hdd := hd0 d hdst
          rw [hdst]
          exact execAny_sound hp hs hd fin m _ _ _ h _ w hkn' ⟨hi.rel.put (d := some d) (fun t ht => (by cases ht; exact hdd.1)) _, hi.holds, hi.fr⟩ (hag.put (d := some d) (fun t ht => (by cases ht; exact hdd.2)) _) hop
        | skip kn' hkn' hop =>
          refine wpAny_take ho2 hs hp3 hrd (fun c a w h => h.elim) (v := undef) (.inr ⟨hwt, rfl⟩) ?_
          exact execAny_sound hp hs hd fin m _ _ _ h _ w (hkn'.put _ _) ⟨hi.rel.put (fun t ht => (hd0 t ht).1) undef, hi.holds, hi.fr⟩ (hag.put (fun t ht => (hd0 t ht).2) undef) hop
      · exact wpAny_all hr (by simp) (fun j hj => go j (allR_mem hx j hj))

/-! several new rows at once -/

def opAt (ops : List Oper) (j : Nat) : Op :=
  match ops[j]? with
  | some o => o.op
  | none => .move (.const undef)

/-- what an operation that makes a row needs; the row's cells; the value at a row -/
def newC (P : Program) (f : F) : Op → Prop
  | .alloc t => ∃ z, (P.info? t).bind (·.zero) = some z
  | .box t x => cond (isAggB P t) (∃ cs, ev f x = .agg cs) ((ev f x).oneCell' = true)
  | .buildSlice t len ps => ∃ e z, P.underlying t = some (.slice e) ∧ (P.info? e).bind (·.zero) = some z ∧
      cond (Nat.beq (len * P.cellsOf e) 0) (ps.toList = []) (Nat.ble (len * P.cellsOf e) 16777216 = true ∧ ∃ cs, Instr.fill (fun i => some (i * P.cellsOf e, P.cellsOf e)) ((Array.range (len * P.cellsOf e)).map (z.cells[· % z.cells.size]!)) (ps.toList.map fun p => (p.1, ev f p.2)) = some cs)
  | .makeSlice t l c => ∃ e z l' c', P.underlying t = some (.slice e) ∧ ev f l = .int .i64 l' ∧ ev f c = .int .i64 c' ∧ (P.info? e).bind (·.zero) = some z ∧ (Nat.beq z.cells.size (P.cellsOf e) && !(Nat.beq z.cells.size 0)) = true ∧
      0 ≤ l' ∧ l' ≤ c' ∧ P.bytesOf e * c' ≤ 140737488355328 ∧ c' ≤ 1000000000
  | _ => False
def newCells (P : Program) (f : F) : Op → List Value
  | .alloc t => (match (P.info? t).bind (·.zero) with | some z => z.cells.toList | none => [])
  | .box t x => cond (isAggB P t) (match ev f x with | .agg cs => cs.toList | _ => []) [ev f x]
  | .buildSlice t len ps => (match P.underlying t with
    | some (.slice e) => (match (P.info? e).bind (·.zero) with
      | some z => cond (Nat.beq (len * P.cellsOf e) 0) [] (match Instr.fill (fun i => some (i * P.cellsOf e, P.cellsOf e)) ((Array.range (len * P.cellsOf e)).map (z.cells[· % z.cells.size]!)) (ps.toList.map fun p => (p.1, ev f p.2)) with | some cs => cs.toList | none => [])
      | none => [])
    | _ => [])
  | .makeSlice t l c => (match P.underlying t, ev f l, ev f c with
    | some (.slice e), .int .i64 _, .int .i64 c => (match (P.info? e).bind (·.zero) with | some z => repl c.toNat z.cells.toList | none => [])
    | _, _, _ => [])
  | _ => []
def newVal (_P : Program) (f : F) (op : Op) (r : Nat) : Value :=
  match op with
  | .buildSlice _ len _ => .slice (some ⟨r, 0, none⟩) len len
  | .makeSlice _ l c => (match ev f l, ev f c with | .int .i64 l, .int .i64 c => .slice (some ⟨r, 0, none⟩) l.toNat c.toNat | _, _ => undef)
  | _ => .pointer (some ⟨r, 0, none⟩)

theorem opVC_new {o : Oper} {f : F} {h : H} {K : Value → H → Prop} (hn : isNew o.op = true) : opVC P false f h o K ↔ newC P f o.op ∧ h.new (newCells P f o.op) fun r h' => K (newVal P f o.op r) h' := by
  unfold opVC
  generalize o.op = op at hn
  cases op <;> simp only [isNew, Bool.false_eq_true] at hn <;> simp only [isWrite, cond_true, cond_false, writeVC, newC, newCells, newVal]
  · rename_i t
    cases hz : (P.info? t).bind (fun x => x.zero) with
    | none => exact ⟨fun h => h.elim, fun h => by obtain ⟨⟨z, hz⟩, _⟩ := h; cases hz⟩
    | some z => exact ⟨fun h => ⟨⟨z, rfl⟩, h⟩, fun h => h.2⟩
  · rename_i t x
    cases isAggB P t <;> simp only [cond_true, cond_false]
    rcases Classical.em (∃ cs, ev f x = .agg cs) with ⟨cs, hcs⟩ | hne
    · simp only [hcs]
      exact ⟨fun h => ⟨⟨cs, rfl⟩, h⟩, fun h => h.2⟩
    · refine ⟨fun h => ?_, fun h => absurd h.1 hne⟩
      split at h
      · rename_i cs hcs; exact absurd ⟨cs, hcs⟩ hne
      · exact h.elim
  · rename_i t len ps
    rcases Classical.em (∃ e, P.underlying t = some (.slice e)) with ⟨e, he⟩ | hne
    · simp only [he]
      cases hz : (P.info? e).bind (fun x => x.zero) with
      | none =>
        refine ⟨fun h => h.elim, fun h => ?_⟩
        obtain ⟨⟨e2, z2, h1, h2, _⟩, _⟩ := h
        cases h1
        rw [hz] at h2; cases h2
      | some z =>
        dsimp only
        cases hb : Nat.beq (len * P.cellsOf e) 0 <;> simp only [cond_true, cond_false]
        · cases hb2 : Nat.ble (len * P.cellsOf e) 16777216 <;> simp only [cond_true, cond_false]
          · refine ⟨fun h => h.elim, fun h => ?_⟩
            obtain ⟨⟨e2, z2, h1, h2, h3⟩, _⟩ := h
            cases h1
            simp only [hb, cond_false, hb2, Bool.false_eq_true, false_and] at h3
          · cases hcs : Instr.fill (fun i => some (i * P.cellsOf e, P.cellsOf e)) ((Array.range (len * P.cellsOf e)).map (z.cells[· % z.cells.size]!)) (ps.toList.map fun p => (p.1, ev f p.2)) with
            | none =>
              refine ⟨fun h => h.elim, fun h => ?_⟩
              obtain ⟨⟨e2, z2, h1, h2, h3⟩, _⟩ := h
              cases h1
              rw [hz] at h2; cases h2
              simp only [hb, cond_false] at h3
              obtain ⟨_, cs, h4⟩ := h3
              rw [hcs] at h4; cases h4
            | some cs => exact ⟨fun h => ⟨⟨e, z, rfl, hz, by simp only [hb, cond_false]; exact ⟨hb2, cs, hcs⟩⟩, h⟩, fun h => h.2⟩
        · cases hps : ps.toList with
          | nil => exact ⟨fun h => ⟨⟨e, z, rfl, hz, by simp only [hb, cond_true]⟩, h⟩, fun h => h.2⟩
          | cons x l =>
            refine ⟨fun h => h.elim, fun h => ?_⟩
            obtain ⟨⟨e2, z2, h1, h2, h3⟩, _⟩ := h
            cases h1
            simp only [hb, cond_true] at h3
            cases h3
    · refine ⟨fun h => ?_, fun h => ?_⟩
      · split at h
        · rename_i e he; exact absurd ⟨e, he⟩ hne
        · exact h.elim
      · obtain ⟨⟨e2, z2, h1, _⟩, _⟩ := h
        exact absurd ⟨e2, h1⟩ hne
  · rename_i t l c
    rcases Classical.em (∃ e l' c', P.underlying t = some (.slice e) ∧ ev f l = .int .i64 l' ∧ ev f c = .int .i64 c') with ⟨e, l', c', he, hl, hc⟩ | hne
    · simp only [he, hl, hc]
      cases hz : (P.info? e).bind (fun x => x.zero) with
      | none =>
        refine ⟨fun h => h.elim, fun h => ?_⟩
        obtain ⟨⟨e2, z2, l2, c2, h1, h2, h3, h4, _⟩, _⟩ := h
        cases h1
        rw [hz] at h4; cases h4
      | some z =>
        dsimp only
        cases hb : (Nat.beq z.cells.size (P.cellsOf e) && !(Nat.beq z.cells.size 0)) <;> simp only [cond_true, cond_false]
        · refine ⟨fun h => h.elim, fun h => ?_⟩
          obtain ⟨⟨e2, z2, l2, c2, h1, h2, h3, h4, h5, _⟩, _⟩ := h
          cases h1
          rw [hz] at h4; cases h4
          rw [hb] at h5; cases h5
        · refine ⟨fun h => ⟨⟨e, z, l', c', rfl, rfl, rfl, hz, hb, h.1, h.2.1, h.2.2.1, h.2.2.2.1⟩, h.2.2.2.2⟩, fun h => ?_⟩
          obtain ⟨⟨e2, z2, l2, c2, h1, h2, h3, h4, h5, h6, h7, h8, h9⟩, hn⟩ := h
          cases h1
          cases h2
          cases h3
          exact ⟨h6, h7, h8, h9, hn⟩
    · refine ⟨fun h => ?_, fun h => ?_⟩
      · split at h
        · rename_i e l' c' he hl hc; exact absurd ⟨e, l', c', he, hl, hc⟩ hne
        · exact h.elim
      · obtain ⟨⟨e2, z2, l2, c2, h1, h2, h3, _⟩, _⟩ := h
        exact absurd ⟨e2, l2, c2, h1, h2, h3⟩ hne

theorem new_congr {op : Op} {f f' : F} (hn : isNew op = true) (h : ∀ x ∈ newArgs op, ev f' x = ev f x) : newC P f' op = newC P f op ∧ newCells P f' op = newCells P f op ∧ newVal P f' op = newVal P f op := by
  cases op <;> simp only [isNew, Bool.false_eq_true] at hn
  · exact ⟨rfl, rfl, rfl⟩
  · rename_i t x
    have := h x (by simp [newArgs])
    simp only [newC, newCells, this]
    exact ⟨trivial, trivial, rfl⟩
  · rename_i t len ps
    have e : (ps.toList.map fun p => (p.1, ev f' p.2)) = ps.toList.map fun p => (p.1, ev f p.2) := by
      refine List.map_congr_left fun p hp => ?_
      rw [h p.2 (by simp only [newArgs]; exact List.mem_map_of_mem hp)]
    simp only [newC, newCells, e]
    exact ⟨trivial, trivial, rfl⟩
  · rename_i t l c
    have h1 := h l (by simp [newArgs])
    have h2 := h c (by simp [newArgs])
    refine ⟨by simp only [newC, h1, h2], by simp only [newCells, h1, h2], ?_⟩
    funext r
    simp only [newVal, h1, h2]

def entB (P : Program) (ops : List Oper) (f0 : F) (ρ : Nat → Nat) (j : Nat) : Ent := ⟨some (ρ j), newCells P f0 (opAt ops j), (newCells P f0 (opAt ops j)).length⟩
def putB (P : Program) (ops : List Oper) (f0 : F) (ρ : Nat → Nat) : List Nat → F → F
  | [], f => f
  | j :: B, f => putB P ops f0 ρ B (upd f (dAt ops j) (newVal P f0 (opAt ops j) (ρ j)))
def knAll (ops : List Oper) : List Nat → List (Nat × Bool) → List (Nat × Bool)
  | [], kn => kn
  | j :: B, kn => knAll ops B (knDel kn (some (dAt ops j)))

theorem newAt_spec {ds : List Nat} {j : Nat} (h : newAt ops ds j = true) : ∃ o, ops[j]? = some o ∧ opAt ops j = o.op ∧ isNew o.op = true ∧ o.guard = none ∧ o.dst = some (dAt ops j) ∧ ∀ x ∈ newArgs o.op, argIn ds x = false := by
  unfold newAt at h
  split at h
  · rename_i o ho
    simp only [Bool.and_eq_true, Option.isNone_iff_eq_none, List.all_eq_true, Bool.not_eq_true'] at h
    obtain ⟨h1, h2, h3, h4⟩ := h
    refine ⟨o, ho, by simp [opAt, ho], h1, h2, ?_, h4⟩
    obtain ⟨d, hd⟩ := Option.isSome_iff_exists.1 h3
    simp [dAt, ho, hd]
  · cases h

theorem ev_upd {f : F} {d : Nat} {v : Value} {ds : List Nat} {x : Operand} (hd : d ∈ ds) (hx : argIn ds x = false) : ev (upd f d v) x = ev f x := by
  cases x with
  | tmp t =>
    show cond (Nat.beq t d) v (f t) = f t
    cases hb : Nat.beq t d
    · rfl
    · have : memB t ds = true := by rw [Nat.eq_of_beq_eq_true hb]; exact memB_iff.2 hd
      simp only [argIn, this, Bool.true_eq_false] at hx
  | const v => rfl
  | global g => rfl
  | func m => rfl

theorem anyStep_new {f : F} {h : H} {kn : List (Nat × Bool)} {ds : List Nat} {j : Nat} {K : List (Nat × Bool) → F → H → Prop} (hj : newAt ops ds j = true) :
    anyStep P ops f h kn j K ↔ newC P f (opAt ops j) ∧ h.new (newCells P f (opAt ops j)) fun r h' => K (knDel kn (some (dAt ops j))) (upd f (dAt ops j) (newVal P f (opAt ops j) r)) h' := by
  obtain ⟨o, ho, e, hn, hg, hd, _⟩ := newAt_spec hj
  have hk : knOf kn o.op = none := by
    generalize o.op = op at hn
    cases op <;> simp only [isNew, Bool.false_eq_true] at hn <;> rfl
  unfold anyStep
  simp only [ho, stepGuard, hg, stepOp, hk]
  rw [opVC_new hn, e, hd]
  rfl

theorem flatB {ds : List Nat} {f0 : F} {K : F → H → Prop} : ∀ (B : List Nat) (m : Nat) (L : Array Bool) (kn : List (Nat × Bool)) (f : F) (h : H), (∀ j ∈ B, newAt ops ds j = true) → (∀ j ∈ B, dAt ops j ∈ ds) → (∀ x, argIn ds x = false → ev f x = ev f0 x) →
    execAny3 P ops K (m + B.length) B L kn f h → ∀ ρ : Nat → Nat, (∀ j ∈ B, h.fresh (ρ j)) → (B.map ρ).Nodup →
      (∀ j ∈ B, newC P f0 (opAt ops j)) ∧ execAny3 P ops K m [] (setAll L B) (knAll ops B kn) (putB P ops f0 ρ B f) ⟨h.own ++ B.map (entB P ops f0 ρ), h.ro⟩
  | [], m, L, kn, f, h, _, _, _, hx, ρ, _, _ => by
    refine ⟨by simp, ?_⟩
    simp only [List.map_nil, List.append_nil, setAll, knAll, putB]
    exact hx
  | j :: B, m, L, kn, f, h, hB, hds, hf, hx, ρ, hfr, hnd => by
    have hj := hB j (by simp)
    obtain ⟨o, ho, e, hn, hg, hd, hargs⟩ := newAt_spec hj
    have hx : anyStep P ops f h kn j fun kn' f' h' => execAny3 P ops K (m + B.length) B (L.setIfInBounds j true) kn' f' h' := hx
    rw [anyStep_new hj] at hx
    obtain ⟨c1, c2, c3⟩ := new_congr (P := P) (op := opAt ops j) (f := f0) (f' := f) (by rw [e]; exact hn) (fun x hx => hf x (hargs x (by rw [← e]; exact hx)))
    rw [c1, c2, c3] at hx
    obtain ⟨hc, hx⟩ := hx
    have hx := hx (ρ j) (hfr j (by simp))
    rw [List.map_cons, List.nodup_cons] at hnd
    obtain ⟨h1, h2⟩ := flatB (f0 := f0) B m _ _ _ _ (fun k hk => hB k (by simp [hk])) (fun k hk => hds k (by simp [hk])) (fun x hx => (ev_upd (hds j (by simp)) hx).trans (hf x hx)) hx ρ (fun k hk => by
      have := hfr k (by simp [hk])
      refine ⟨fun e he => ?_, this.2⟩
      simp only [List.mem_append, List.mem_singleton] at he
      rcases he with he | rfl
      · exact this.1 e he
      · intro hb
        exact hnd.1 (by rw [Option.some.inj hb]; exact List.mem_map_of_mem hk)) hnd.2
    refine ⟨fun k hk => ?_, ?_⟩
    · simp only [List.mem_cons] at hk
      rcases hk with rfl | hk
      · exact hc
      · exact h1 k hk
    · simp only [List.map_cons, setAll, knAll, putB]
      simp only [List.append_assoc, List.singleton_append] at h2
      exact h2

theorem knAll_ok {f0 : F} {ρ : Nat → Nat} : ∀ (B : List Nat) (kn : List (Nat × Bool)) (f : F), KnOk kn f → KnOk (knAll ops B kn) (putB P ops f0 ρ B f)
  | [], _, _, h => h
  | j :: B, _, _, h => knAll_ok B _ _ (h.put (some (dAt ops j)) _)

theorem putB_app {f0 : F} {ρ : Nat → Nat} : ∀ (B C : List Nat) (f : F), putB P ops f0 ρ (B ++ C) f = putB P ops f0 ρ C (putB P ops f0 ρ B f)
  | [], _, _ => rfl
  | _ :: B, C, _ => putB_app B C _
theorem putB_out {f0 : F} {ρ : Nat → Nat} {t : Nat} : ∀ (B : List Nat) (f : F), t ∉ B.map (dAt ops) → putB P ops f0 ρ B f t = f t
  | [], _, _ => rfl
  | j :: B, f, h => by
    simp only [List.map_cons, List.mem_cons, not_or] at h
    refine (putB_out B _ h.2).trans ?_
    show cond (Nat.beq t (dAt ops j)) _ (f t) = f t
    cases hb : Nat.beq t (dAt ops j)
    · rfl
    · exact absurd (Nat.eq_of_beq_eq_true hb) h.1
theorem putB_in {f0 : F} {ρ : Nat → Nat} {j : Nat} : ∀ (B : List Nat) (f : F), (B.map (dAt ops)).Nodup → j ∈ B → putB P ops f0 ρ B f (dAt ops j) = newVal P f0 (opAt ops j) (ρ j)
  | k :: B, f, hn, h => by
    rw [List.map_cons, List.nodup_cons] at hn
    simp only [List.mem_cons] at h
    by_cases hk : j ∈ B
    · exact putB_in B _ hn.2 hk
    · have e : j = k := h.resolve_right hk
      subst e
      refine (putB_out B _ hn.1).trans ?_
      show cond (Nat.beq (dAt ops j) (dAt ops j)) _ _ = _
      rw [Nat.beq_refl]; rfl
theorem putB_perm {f0 f : F} {ρ : Nat → Nat} {B D : List Nat} (hp : D.Perm B) (hn : (B.map (dAt ops)).Nodup) : putB P ops f0 ρ D f = putB P ops f0 ρ B f := by
  have hnD : (D.map (dAt ops)).Nodup := (hp.map _).nodup_iff.2 hn
  funext t
  by_cases ht : t ∈ B.map (dAt ops)
  · obtain ⟨j, hj, rfl⟩ := List.mem_map.1 ht
    rw [putB_in B f hn hj, putB_in D f hnD (hp.mem_iff.2 hj)]
  · rw [putB_out B f ht, putB_out D f (fun h => ht ((hp.map _).mem_iff.1 h))]
theorem putB_rho {f0 : F} {ρ ρ' : Nat → Nat} : ∀ (B : List Nat) (f : F), (∀ j ∈ B, ρ' j = ρ j) → putB P ops f0 ρ' B f = putB P ops f0 ρ B f
  | [], _, _ => rfl
  | j :: B, f, h => by
    simp only [putB]
    rw [h j (by simp), putB_rho B _ (fun k hk => h k (by simp [hk]))]

theorem setAll_app : ∀ (B C : List Nat) (L : Array Bool), setAll L (B ++ C) = setAll (setAll L B) C
  | [], _, _ => rfl
  | _ :: B, C, _ => setAll_app B C _
theorem setAll_perm {B D : List Nat} (h : D.Perm B) : ∀ L, setAll L D = setAll L B := by
  induction h with
  | nil => intro L; rfl
  | cons x _ ih => intro L; exact ih _
  | swap x y l =>
    intro L
    show setAll ((L.setIfInBounds y true).setIfInBounds x true) l = setAll ((L.setIfInBounds x true).setIfInBounds y true) l
    by_cases e : x = y
    · subst e; rfl
    · rw [Array.setIfInBounds_comm _ _ (Ne.symm e)]
  | trans _ _ ih1 ih2 => intro L; rw [ih1 L, ih2 L]
theorem setAll_ready {j : Nat} : ∀ (B : List Nat) (L : Array Bool), j ∉ B → j ∈ Region.ready .any ops.toArray L → j ∈ Region.ready .any ops.toArray (setAll L B)
  | [], _, _, h => h
  | k :: B, L, hn, h => by
    simp only [List.mem_cons, not_or] at hn
    exact setAll_ready B _ hn.2 (ready_mono h hn.1)
theorem setAll_done {j : Nat} : ∀ (B : List Nat) (L : Array Bool), j ∈ B → j ∉ Region.ready .any ops.toArray (setAll L B)
  | k :: B, L, hj, h => by
    have key : ∀ (B : List Nat) (L : Array Bool), L.getD j true = true → (setAll L B).getD j true = true := by
      intro B
      induction B with
      | nil => intro L h; exact h
      | cons x B ih =>
        intro L h
        refine ih _ ?_
        by_cases e : x = j
        · subst e
          by_cases hlt : x < L.size
          · simp [hlt]
          · simp [hlt]
        · rw [getD_set_ne true e]; exact h
    simp only [List.mem_cons] at hj
    by_cases hjB : j ∈ B
    · exact setAll_done B _ hjB h
    · have e : j = k := hj.resolve_right hjB
      subst e
      have h0 := (mem_ready.1 h).1
      have : (setAll (L.setIfInBounds j true) B).getD j true = true := key B _ (by
        by_cases hlt : j < L.size
        · simp [hlt]
        · simp [hlt])
      have h0' : (setAll (L.setIfInBounds j true) B).getD j true = false := h0
      rw [this] at h0'; cases h0'

theorem nodupB_spec : ∀ {l : List Nat}, nodupB l = true → l.Nodup
  | [], _ => .nil
  | d :: l, h => by
    simp only [nodupB, Bool.and_eq_true, Bool.not_eq_true'] at h
    refine List.nodup_cons.2 ⟨fun hm => ?_, nodupB_spec h.2⟩
    rw [memB_iff.2 hm] at h; cases h.1

theorem fresh_ge {w : World} {h : H} (hw : Holds w h) {r : Nat} (hr : w.heap.size ≤ r) : h.fresh r :=
  ⟨fun _ he hid => Nat.lt_irrefl _ (Nat.lt_of_lt_of_le (ids_lt hw he hid) hr), fun a v hv hb => Nat.lt_irrefl _ (Nat.lt_of_lt_of_le (hb ▸ cell_block_lt (hw.ro a v hv)) hr)⟩

theorem execAny3_sound {K : F → H → Prop} {N : Act → World → Prop} (hs : Region.noSelect ops.toArray = true) (hd : ∀ d ∈ dsts ops, d < n ∧ d ∈ W)
    (fin : ∀ f h a w, Inv n w0 h0 f h a w → Agree W fS f → K f h → N a w) (m : Nat) :
    ∀ (L : Array Bool) (kn : List (Nat × Bool)) (f : F) (h : H) (a : Act) (w : World), KnOk kn f → Inv n w0 h0 f h a w → Agree W fS f →
      execAny3 P ops K m [] L kn f h → wpAny P .any ops.toArray (NQ N) m L a w := by
  induction m using Nat.strongRecOn with
  | _ m IH =>
  intro L kn f h a w hkn hi hag hx
  cases m with
  | zero =>
    unfold execAny3 at hx
    split at hx
    · rename_i hr; exact ⟨hr, fin f h a w hi hag hx⟩
    · exact hx.elim
  | succ m =>
    have rec_ : ∀ (L : Array Bool) (kn : List (Nat × Bool)) (f : F) (h : H) (a : Act) (w : World), KnOk kn f → Inv n w0 h0 f h a w → Agree W fS f → execAny3 P ops K m [] L kn f h → wpAny P .any ops.toArray (NQ N) m L a w := IH m (Nat.lt_succ_self m)
    unfold execAny3 at hx
    split at hx
    · rename_i hr
      exact ⟨fun _ => fin f h a w hi hag hx, by rw [hr]; simp⟩
    · rename_i i is hr
      have go : ∀ j, anyStep P ops f h kn j (fun kn' f' h' => execAny3 P ops K m [] (L.setIfInBounds j true) kn' f' h') → wpOp P ops.toArray (NQ N) j (wpAny P .any ops.toArray (NQ N) m (L.setIfInBounds j true)) a w := by
        intro j hj
        unfold anyStep at hj
        split at hj
        · exact hj.elim
        rename_i o ho
        have ho' : ops.toArray[j]? = some o := by simpa using ho
        have hd0 : ∀ t, o.dst = some t → t < n ∧ t ∈ W := fun t ht => hd t (mem_dsts_get ho ht)
        unfold wpOp
        simp only [ho']
        have hst := step_guard (ops := ops) hi.rel hkn hj
        generalize Region.wanted o (yielded ops.toArray a.tmps) = wnt at hst
        cases hst with
        | op kn' hkn' hop =>
          rw [if_pos rfl]
          left
          refine opVC_wp hi.rel.eval hi.holds hop (fun v w' h' g1 g2 g3 => ?_)
          exact rec_ _ _ _ h' _ w' (hkn'.put _ _) ⟨hi.rel.put (fun t ht => (hd0 t ht).1) v, g1, hi.fr.trans g2⟩ (hag.put (fun t ht => (hd0 t ht).2) v) g3
        | known t d kn' hdst hrun hkn' hop =>
          rw [if_pos rfl]
          left
          unfold Oper.wp
          rw [hi.rel.eval, hrun w, Oper.upon_value, hdst]
          have hdd := hd0 d hdst
          exact rec_ _ _ _ h _ w hkn' ⟨hi.rel.put (d := some d) (fun t ht => (by cases ht; exact hdd.1)) _, hi.holds, hi.fr⟩ (hag.put (d := some d) (fun t ht => (by cases ht; exact hdd.2)) _) hop
        | skip kn' hkn' hop =>
          rw [if_neg (by simp)]
          exact rec_ _ _ _ h _ w (hkn'.put _ _) ⟨hi.rel.put (fun t ht => (hd0 t ht).1) undef, hi.holds, hi.fr⟩ (hag.put (fun t ht => (hd0 t ht).2) undef) hop
      split at hx
      · rename_i j hj
        have hjm := List.mem_of_find?_eq_some hj
        have hjp := List.find?_some hj
        unfold anyStep at hx
        split at hx
        · exact hx.elim
        rename_i o ho
        unfold pureAt2 at hjp
        simp only [ho, Bool.and_eq_true] at hjp
        obtain ⟨hp3, hp1⟩ := hjp
        have hd0 : ∀ t, o.dst = some t → t < n ∧ t ∈ W := fun t ht => hd t (mem_dsts_get ho ht)
        have ho2 : ops.toArray[j]? = some o := by simpa using ho
        have hrd : (Region.ready .any ops.toArray L).contains j = true := by rw [hr]; simpa using hjm
        have hheap : Region.wanted o (yielded ops.toArray a.tmps) = true → heapFree o.op = true := by
          intro hwt
          cases hg : o.guard with
          | none => simpa only [hg] using hp1
          | some ib =>
            obtain ⟨i, b⟩ := ib
            have hw : ∀ y, Region.wanted o y = (y i == some b) := fun y => by simp [Region.wanted, hg]
            simp only [hg] at hp1
            split at hp1
            · rename_i hs1
              rw [hw, yielded_none hs1] at hwt
              simp at hwt
            · rename_i s hs1
              split at hp1
              · rename_i t ht
                rw [hw, yielded_of hi.rel hs1, hkn s t ht] at hwt
                cases t <;> cases b <;> first | exact hp1 | (simp at hwt; done)
              · exact hp1
        have hst := step_guard (ops := ops) hi.rel hkn hx
        generalize hwt : Region.wanted o (yielded ops.toArray a.tmps) = wnt at hst
        cases hst with
        | op kn' hkn' hop =>
          obtain ⟨v, hv, hk⟩ := readVC_sound (heapFree_opVC (hheap hwt) hop)
          have hy : Yields P ops.toArray o v a := .inl ⟨hwt, fun w' => by rw [hi.rel.eval]; exact hv w' (holds_empty w')⟩
          refine wpAny_take ho2 hs hp3 hrd (fun c a w h => h.elim) hy ?_
          exact rec_ _ _ _ h _ w (hkn'.put _ _) ⟨hi.rel.put (fun t ht => (hd0 t ht).1) v, hi.holds, hi.fr⟩ (hag.put (fun t ht => (hd0 t ht).2) v) hk
        | known t d kn' hdst hrun hkn' hop =>
          have hy : Yields P ops.toArray o (.bool t) a := .inl ⟨hwt, fun w' => by rw [hi.rel.eval]; exact hrun w'⟩
          refine wpAny_take ho2 hs hp3 hrd (fun c a w h => h.elim) hy ?_
          have hdd := hd0 d hdst
          rw [hdst]
          exact rec_ _ _ _ h _ w hkn' ⟨hi.rel.put (d := some d) (fun t ht => (by cases ht; exact hdd.1)) _, hi.holds, hi.fr⟩ (hag.put (d := some d) (fun t ht => (by cases ht; exact hdd.2)) _) hop
        | skip kn' hkn' hop =>
          refine wpAny_take ho2 hs hp3 hrd (fun c a w h => h.elim) (v := undef) (.inr ⟨hwt, rfl⟩) ?_
          exact rec_ _ _ _ h _ w (hkn'.put _ _) ⟨hi.rel.put (fun t ht => (hd0 t ht).1) undef, hi.holds, hi.fr⟩ (hag.put (fun t ht => (hd0 t ht).2) undef) hop
      · cases hb : (Nat.ble 2 (i :: is).length && (Nat.ble (i :: is).length (m + 1) && batchB ops L (i :: is))) <;> simp only [hb, cond_true, cond_false] at hx
        · exact wpAny_all hr (by simp) (fun j hj => go j (allR_mem hx j hj))
        · simp only [Bool.and_eq_true, batchB, List.all_eq_true] at hb
          obtain ⟨_, hlen, hB1, hB2, hB3⟩ := hb
          have hlen := Nat.le_of_ble_eq_true hlen
          obtain ⟨B, hBe⟩ : ∃ B, B = i :: is := ⟨_, rfl⟩
          rw [← hBe] at hlen hB1 hB2 hB3 hr
          have hndd := nodupB_spec hB2
          have hndB : B.Nodup := List.Pairwise.of_map (dAt ops) (fun a b h e => h (by rw [e])) hndd
          have hx0 : execAny3 P ops K ((m + 1 - B.length) + B.length) B L kn f h := by
            rw [show (m + 1 - B.length) + B.length = m + 1 by omega, hBe]
            exact hx
          have hfl := flatB (f0 := f) B (m + 1 - B.length) L kn f h hB1 (fun j hj => List.mem_map_of_mem hj) (fun _ _ => rfl) hx0
          have hC : ∀ j ∈ B, newC P f (opAt ops j) := (hfl (fun j => w.heap.size + j) (fun j _ => fresh_ge hi.holds (Nat.le_add_right _ _)) (by
            exact List.Pairwise.map _ (fun a b h (e : w.heap.size + a = w.heap.size + b) => h (by omega)) hndB)).1
          -- whatever is left, in whatever order
          have main : ∀ (k : Nat) (R D : List Nat) (ρ : Nat → Nat) (a : Act) (w : World), R.length = k → (D ++ R).Perm B → Inv n w0 h0 (putB P ops f ρ D f) ⟨h.own ++ D.map (entB P ops f ρ), h.ro⟩ a w → Agree W fS (putB P ops f ρ D f) →
              (∀ j ∈ D, h.fresh (ρ j)) → (D.map ρ).Nodup → wpAny P .any ops.toArray (NQ N) ((m + 1 - B.length) + R.length) (setAll L D) a w := by
            intro k
            induction k with
            | zero =>
              intro R D ρ a w hR hp hi2 hag2 hfr hnd
              have hR0 : R = [] := List.eq_nil_of_length_eq_zero hR
              subst hR0
              rw [List.append_nil] at hp
              have hnd2 : (B.map ρ).Nodup := (hp.map ρ).nodup_iff.1 hnd
              have hv := (hfl ρ (fun j hj => hfr j (hp.mem_iff.2 hj)) hnd2).2
              rw [putB_perm hp hndd] at hi2 hag2
              rw [setAll_perm hp]
              have hlt : m + 1 - B.length < m + 1 := by rw [hBe, List.length_cons]; omega
              refine IH _ hlt _ _ _ _ a w (knAll_ok B kn f hkn) ?_ hag2 hv
              exact hi2.gh2 (Gh.perm2 (List.Perm.append_left _ ((hp.symm.map _))))
            | succ k ih =>
              intro R D ρ a w hR hp hi2 hag2 hfr hnd
              rw [hR, show m + 1 - B.length + (k + 1) = (m + 1 - B.length + k) + 1 by omega]
              have hndDR : (D ++ R).Nodup := hp.nodup_iff.2 hndB
              have memR : ∀ j, j ∈ Region.ready .any ops.toArray (setAll L D) → j ∈ R := by
                intro j hj
                have hjD : j ∉ D := fun h => setAll_done D L h hj
                by_cases hjB : j ∈ B
                · have := hp.mem_iff.2 hjB
                  simp only [List.mem_append] at this
                  exact this.resolve_left hjD
                · exfalso
                  obtain ⟨r, hr1⟩ : ∃ r, r ∈ R := by
                    cases R with
                    | nil => simp at hR
                    | cons r R => exact ⟨r, by simp⟩
                  have hrB : r ∈ B := hp.mem_iff.1 (by simp [hr1])
                  have h3 := hB3 r hrB
                  have hDf : ∃ X, (D ++ X).Perm (B.filter fun k => !(Nat.beq k r)) ∧ j ∉ X := by
                    refine ⟨R.filter fun k => !(Nat.beq k r), ?_, fun h => hjB (hp.mem_iff.1 (by simp only [List.mem_append]; exact .inr (List.mem_filter.1 h).1))⟩
                    have e1 : D = D.filter fun k => !(Nat.beq k r) := by
                      refine (List.filter_eq_self.2 fun k hk => ?_).symm
                      have hne : k ≠ r := fun e => by
                        rw [List.nodup_append] at hndDR
                        exact hndDR.2.2 k hk r hr1 e
                      cases hb : Nat.beq k r
                      · rfl
                      · exact absurd (Nat.eq_of_beq_eq_true hb) hne
                    have e2 : D ++ R.filter (fun k => !(Nat.beq k r)) = (D ++ R).filter fun k => !(Nat.beq k r) := by rw [List.filter_append, ← e1]
                    rw [e2]
                    exact hp.filter _
                  obtain ⟨X, hX, hjX⟩ := hDf
                  have h4 : j ∈ Region.ready .any ops.toArray (setAll L (B.filter fun k => !(Nat.beq k r))) := by
                    rw [← setAll_perm hX, setAll_app]
                    exact setAll_ready X _ hjX hj
                  unfold onlyB at h3
                  split at h3
                  · rename_i l k j' hk
                    rw [hk] at h4
                    simp only [List.mem_singleton] at h4
                    have := Nat.eq_of_beq_eq_true h3
                    exact hjB (by rw [h4, this]; exact hrB)
                  · cases h3
              refine ⟨fun hnil => ?_, fun j hj => ?_⟩
              · exfalso
                obtain ⟨r, hr1⟩ : ∃ r, r ∈ R := by
                  cases R with
                  | nil => simp at hR
                  | cons r R => exact ⟨r, by simp⟩
                have hrB : r ∈ B := hp.mem_iff.1 (by simp [hr1])
                have hrD : r ∉ D := fun h => by
                  rw [List.nodup_append] at hndDR
                  exact hndDR.2.2 r h r hr1 rfl
                have := setAll_ready (ops := ops) D L hrD (by rw [hr]; exact hrB)
                rw [hnil] at this; simp at this
              · have hjR := memR j hj
                have hjB : j ∈ B := hp.mem_iff.1 (by simp [hjR])
                have hjD : j ∉ D := fun h => by
                  rw [List.nodup_append] at hndDR
                  exact hndDR.2.2 j h j hjR rfl
                obtain ⟨o, ho, e, hn, hg, hdj, hargs⟩ := newAt_spec (hB1 j hjB)
                have ho' : ops.toArray[j]? = some o := by simpa using ho
                have hd0 := hd (dAt ops j) (mem_dsts_get ho hdj)
                have hwnt : Region.wanted o (yielded ops.toArray a.tmps) = true := by simp [Region.wanted, hg]
                unfold wpOp
                simp only [ho', hwnt, if_true]
                left
                have hev : ∀ (D' : List Nat) (f1 : F), (∀ k ∈ D', k ∈ B) → (∀ x, argIn (B.map (dAt ops)) x = false → ev f1 x = ev f x) → ∀ x, argIn (B.map (dAt ops)) x = false → ev (putB P ops f ρ D' f1) x = ev f x := by
                  intro D'
                  induction D' with
                  | nil => intro f1 _ h x hx; exact h x hx
                  | cons k D' ihD => intro f1 hk h x hx; exact ihD _ (fun k2 h2 => hk k2 (by simp [h2])) (fun x hx => (ev_upd (List.mem_map_of_mem (hk k (by simp))) hx).trans (h x hx)) x hx
                obtain ⟨c1, c2, c3⟩ := new_congr (P := P) (op := o.op) (f := f) (f' := putB P ops f ρ D f) hn (fun x hx => hev D f (fun k hk => hp.mem_iff.1 (by simp [hk])) (fun _ _ => rfl) x (hargs x hx))
                refine opVC_wp (K := fun v h' => ∃ r, v = newVal P f o.op r ∧ (⟨h.own ++ D.map (entB P ops f ρ), h.ro⟩ : H).fresh r ∧ h' = ⟨(h.own ++ D.map (entB P ops f ρ)) ++ [⟨some r, newCells P f o.op, (newCells P f o.op).length⟩], h.ro⟩) hi2.rel.eval hi2.holds ((opVC_new hn).2 ⟨by rw [c1, ← e]; exact hC j hjB, by rw [c2, c3]; intro r fr; exact ⟨r, rfl, fr, rfl⟩⟩) (fun v w' h' g1 g2 g3 => ?_)
                obtain ⟨r, rfl, fr, rfl⟩ := g3
                have hρ : ∀ k ∈ D, (fun k => if k = j then r else ρ k) k = ρ k := fun k hk => if_neg (fun (e : k = j) => hjD (e ▸ hk))
                have hent : D.map (entB P ops f fun k => if k = j then r else ρ k) = D.map (entB P ops f ρ) := List.map_congr_left fun k hk => by unfold entB; rw [hρ k hk]
                have hne : ∀ k ∈ D, ρ k ≠ r := fun k hk e2 => fr.1 (entB P ops f ρ k) (by simp only [List.mem_append]; exact .inr (List.mem_map_of_mem hk)) (by simp [entB, e2])
                have frh : h.fresh r := ⟨fun e2 he => fr.1 e2 (by simp only [List.mem_append]; exact .inl he), fr.2⟩
                have hj1 : (fun k => if k = j then r else ρ k) j = r := if_pos rfl
                have hfin := ih (R.erase j) (D ++ [j]) (fun k => if k = j then r else ρ k) (a.put o.dst (newVal P f o.op r)) w' (by rw [List.length_erase_of_mem hjR]; omega) ?_ ?_ ?_ ?_ ?_
                · have e5 : (R.erase j).length = k := by rw [List.length_erase_of_mem hjR]; omega
                  rw [e5, setAll_app] at hfin
                  exact hfin
                · rw [List.append_assoc]
                  refine List.Perm.trans (List.Perm.append_left _ ?_) hp
                  exact (List.perm_cons_erase hjR).symm
                · rw [putB_app, putB_rho D f hρ, List.map_append, hent]
                  have e6 : [j].map (entB P ops f fun k => if k = j then r else ρ k) = [⟨some r, newCells P f o.op, (newCells P f o.op).length⟩] := by
                    simp only [List.map_cons, List.map_nil, entB, if_true, e]
                  rw [e6, ← List.append_assoc]
                  have e7 : putB P ops f (fun k => if k = j then r else ρ k) [j] (putB P ops f ρ D f) = put (putB P ops f ρ D f) o.dst (newVal P f o.op r) := by
                    rw [hdj]
                    simp only [putB, if_true, e]
                    rfl
                  rw [e7]
                  exact ⟨hi2.rel.put (fun t ht => by rw [hdj] at ht; cases ht; exact hd0.1) _, g1, hi2.fr.trans g2⟩
                · rw [putB_app, putB_rho D f hρ]
                  have e7 : putB P ops f (fun k => if k = j then r else ρ k) [j] (putB P ops f ρ D f) = put (putB P ops f ρ D f) o.dst (newVal P f o.op r) := by
                    rw [hdj]
                    simp only [putB, if_true, e]
                    rfl
                  rw [e7]
                  exact hag2.put (fun t ht => by rw [hdj] at ht; cases ht; exact hd0.2) _
                · intro k hk
                  simp only [List.mem_append, List.mem_singleton] at hk
                  rcases hk with hk | rfl
                  · show h.fresh (if k = j then r else ρ k)
                    rw [if_neg (fun (e : k = j) => hjD (e ▸ hk))]; exact hfr k hk
                  · show h.fresh (if k = k then r else ρ k)
                    rw [if_pos rfl]; exact frh
                · rw [List.map_append, List.map_congr_left hρ, List.nodup_append]
                  refine ⟨hnd, by simp, fun x hx y hy => ?_⟩
                  simp only [List.map_cons, List.map_nil, if_true, List.mem_singleton] at hy
                  obtain ⟨k, hk, rfl⟩ := List.mem_map.1 hx
                  rw [hy]
                  exact hne k hk
          have := main B.length B [] (fun _ => 0) a w rfl (by simp) (by simpa [putB] using hi) (by simpa [putB] using hag) (by simp) (by simp)
          rw [show m + 1 - B.length + B.length = m + 1 by omega] at this
          exact this

/-! one order for all -/

def wantF (ops : List Oper) (f : F) (o : Oper) : Bool :=
  match o.guard with
  | none => true
  | some (j, b) => (match dstOf ops j with
    | none => false
    | some s => (match f s with | .bool t => t == b | _ => false))

theorem wantF_spec {f : F} {a : Act} {o : Oper} (hr : Rel n f a) : Region.wanted o (yielded ops.toArray a.tmps) = wantF ops f o := by
  unfold wantF
  cases hg : o.guard with
  | none => simp [Region.wanted, hg]
  | some jb =>
    obtain ⟨j, b⟩ := jb
    have hw : ∀ y, Region.wanted o y = (y j == some b) := fun y => by simp [Region.wanted, hg]
    rw [hw]
    cases hs : dstOf ops j with
    | none => rw [yielded_none hs]; simp only [hs]; rfl
    | some s =>
      rw [yielded_of hr hs]
      simp only [hs]
      generalize f s = v
      cases v <;> rfl

def Unb (h : H) : Prop := ∃ N, ∀ r, N ≤ r → h.fresh r
theorem unb_of {w : World} {h : H} (hw : Holds w h) : Unb h := ⟨w.heap.size, fun _ hr => fresh_ge hw hr⟩
theorem Unb.perm {own own' : List Ent} {ro : Addr → Option Value} (h : Unb ⟨own, ro⟩) (p : own'.Perm own) : Unb ⟨own', ro⟩ :=
  h.imp fun _ k r hr => ⟨fun e he => (k r hr).1 e (p.mem_iff.1 he), (k r hr).2⟩
theorem Unb.add {own : List Ent} {ro : Addr → Option Value} (h : Unb ⟨own, ro⟩) (e : Ent) : Unb ⟨own ++ [e], ro⟩ := by
  obtain ⟨N, k⟩ := h
  refine ⟨N + (e.id.getD 0) + 1, fun r hr => ⟨fun x hx => ?_, (k r (by omega)).2⟩⟩
  simp only [List.mem_append, List.mem_singleton] at hx
  rcases hx with hx | rfl
  · exact (k r (by omega)).1 x hx
  · intro hid
    rw [hid] at hr
    simp only [Option.getD_some] at hr
    omega

theorem SemCall.monoU {m : FuncId} {args : Array Value} {h : H} {p q : Value → H → Prop} (H1 : SemCall P m args h p) (hq : ∀ v h', (∃ w', Holds w' h') → (∀ a v, h.ro a = some v → h'.ro a = some v) → p v h' → q v h') : SemCall P m args h q :=
  fun w hw => (H1 w hw).mono fun _ w' ⟨v, h', a, b, c, d⟩ => ⟨v, h', a, b, c, hq v h' ⟨w', b⟩ c.ro d⟩

theorem ext_holds {w : World} {h h' : H} (he : OwnExt h h') (hro : ∀ a v, h.ro a = some v → h'.ro a = some v) (hw : Holds w h') : Holds w h := by
  obtain ⟨L', hp⟩ := he
  obtain ⟨own, ro⟩ := h
  obtain ⟨own', ro'⟩ := h'
  have hw2 : Holds w ⟨own ++ L', ro'⟩ := (Gh.perm2 hp.symm).holds w hw
  refine ⟨hw2.nd.sublist ((List.sublist_append_left _ _).filterMap _), fun e he => hw2.ok e (by simp [he]), fun a v hv => hw2.ro a v (hro a v hv), fun a v hv e he => hw2.ap a v (hro a v hv) e (by simp [he])⟩

theorem add_holds {w : World} {own : List Ent} {e : Ent} {ro : Addr → Option Value} (hw : Holds w ⟨own ++ [e], ro⟩) : Holds w ⟨own, ro⟩ :=
  ⟨hw.nd.sublist ((List.sublist_append_left _ _).filterMap _), fun x hx => hw.ok x (by simp [hx]), hw.ro, fun a v hv x hx => hw.ap a v hv x (by simp [hx])⟩

/-- a value that a step may yield at once -/
def ValOk (P : Program) (ops : List Oper) (k : Nat) (o : Oper) (f : F) (h : H) (v : Value) : Prop :=
  (wantF ops f o = false ∧ v = undef) ∨ (wantF ops f o = true ∧ ((k = 0 ∧ ∀ w, Val P f o w v) ∨ (k = 1 ∧ ∀ w, Holds w h → Val P f o w v)))

theorem ValOk.mono {k : Nat} {o : Oper} {f : F} {h h' : H} {v : Value} (hv : ValOk P ops k o f h v) (hh : ∀ w, Holds w h' → Holds w h) : ValOk P ops k o f h' v :=
  hv.imp id fun ⟨a, b⟩ => ⟨a, b.imp id fun ⟨c, d⟩ => ⟨c, fun w hw => d w (hh w hw)⟩⟩

inductive TS (P : Program) (ops : List Oper) (k : Nat) (o : Oper) (T : F → H → Prop) (f : F) (h : H) : Prop
  | val (v : Value) (hv : ValOk P ops k o f h v) (hT : T (put f o.dst v) h) : TS P ops k o T f h
  | new (hw : wantF ops f o = true) (hk : k = 3) (hn : isNew o.op = true) (hT : ∀ r, h.fresh r → newC P f o.op ∧ T (put f o.dst (newVal P f o.op r)) ⟨h.own ++ [⟨some r, newCells P f o.op, (newCells P f o.op).length⟩], h.ro⟩) : TS P ops k o T f h
  | call (hw : wantF ops f o = true) (hk : k = 2) (c : Call) (m : FuncId) (args : List Value) (ho : o.op = .call c) (hc : callee f c = some (m, args)) (hb : bodied P m = true) (hT : SemCall P m args.toArray h fun v h' => OwnExt h h' ∧ T (put f o.dst v) h') : TS P ops k o T f h
  | other (hw : wantF ops f o = true) (hk : k = 4) (K0 : Value → H → Prop) (hx : opVC P false f h o K0) (hT : ∀ v h', Unb h' → K0 v h' → T (put f o.dst v) h') : TS P ops k o T f h

theorem TS.mono {k : Nat} {o : Oper} {T T' : F → H → Prop} {f : F} {h : H} (hU : Unb h) (hTT : ∀ f h, Unb h → T f h → T' f h) (t : TS P ops k o T f h) : TS P ops k o T' f h := by
  cases t with
  | val v hv hT => exact .val v hv (hTT _ _ hU hT)
  | new hw hk hn hT => exact .new hw hk hn fun r fr => ⟨(hT r fr).1, hTT _ _ (Unb.add (own := h.own) (ro := h.ro) hU _) (hT r fr).2⟩
  | call hw hk c m args ho hc hb hT => exact .call hw hk c m args ho hc hb (hT.monoU fun v h' hw' _ ⟨p, q⟩ => ⟨p, hTT _ _ (hw'.elim fun _ x => unb_of x) q⟩)
  | other hw hk K0 hx hT => exact .other hw hk K0 hx fun v h' hu hK => hTT _ _ hu (hT v h' hu hK)

def VL (P : Program) (ops : List Oper) (kd : List Nat) (K : F → H → Prop) : List Nat → F → H → Prop
  | [] => fun f h => ∃ h2, Gh h h2 ∧ K f h2
  | j :: l => fun f h => ∃ own', own'.Perm h.own ∧ ∃ o, ops[j]? = some o ∧ TS P ops (kd.getD j 4) o (VL P ops kd K l) f ⟨own', h.ro⟩

theorem VL_perm {kd : List Nat} {K : F → H → Prop} {l : List Nat} {f : F} {own own' : List Ent} {ro : Addr → Option Value} (p : own'.Perm own) (hv : VL P ops kd K l f ⟨own, ro⟩) : VL P ops kd K l f ⟨own', ro⟩ := by
  cases l with
  | nil => exact hv.imp fun h2 ⟨g, k⟩ => ⟨(Gh.perm2 p.symm).trans g, k⟩
  | cons j l => exact hv.imp fun own2 ⟨q, k⟩ => ⟨q.trans p.symm, k⟩

/-! what hangs on operands alone -/

theorem put_comm' {f : F} {x y : Option Tmp} {v u : Value} (h : ∀ d, x = some d → y ≠ some d) : put (put f x v) y u = put (put f y u) x v := by
  cases x with
  | none => rfl
  | some d =>
    cases y with
    | none => rfl
    | some e =>
      have hne : e ≠ d := fun he => h d rfl (by rw [he])
      funext t
      show cond (Nat.beq t e) u (cond (Nat.beq t d) v (f t)) = cond (Nat.beq t d) v (cond (Nat.beq t e) u (f t))
      cases h1 : Nat.beq t e <;> cases h2 : Nat.beq t d <;> first | rfl | exact absurd ((Nat.eq_of_beq_eq_true h1).symm.trans (Nat.eq_of_beq_eq_true h2)) hne

theorem ev_put' {f : F} {d : Option Tmp} {v : Value} {o : Oper} (hd : ∀ t, d = some t → t ∉ o.looksAt ops.toArray) : ∀ x ∈ o.op.operands, ev (put f d v) x = ev f x := by
  intro x hx
  cases d with
  | none => rfl
  | some t =>
    cases x with
    | tmp s =>
      show cond (Nat.beq s t) v (f s) = f s
      cases hb : Nat.beq s t
      · rfl
      · have e := Nat.eq_of_beq_eq_true hb
        subst e
        exact absurd (show s ∈ o.looksAt ops.toArray from List.mem_append_left _ (List.mem_filterMap.2 ⟨Operand.tmp s, by simpa using hx, rfl⟩)) (hd s rfl)
    | const v => rfl
    | global g => rfl
    | func m => rfl

theorem want_put' {f : F} {d : Option Tmp} {v : Value} {o : Oper} (hd : ∀ t, d = some t → t ∉ o.looksAt ops.toArray) : wantF ops (put f d v) o = wantF ops f o := by
  cases d with
  | none => rfl
  | some t =>
    unfold wantF
    cases hg : o.guard with
    | none => rfl
    | some jb =>
      obtain ⟨j, b⟩ := jb
      dsimp only
      cases hs : dstOf ops j with
      | none => rfl
      | some s =>
        dsimp only
        have hne : s ≠ t := fun e => hd t rfl (by subst e; simp only [dstOf] at hs; simp [Oper.looksAt, hg, hs])
        have : put f (some t) v s = f s := by
          show cond (Nat.beq s t) v (f s) = f s
          cases hb : Nat.beq s t
          · rfl
          · exact absurd (Nat.eq_of_beq_eq_true hb) hne
        rw [this]

theorem val_put' {f : F} {d : Option Tmp} {u v : Value} {o : Oper} {w : World} (hs : ∀ cs b, o.op ≠ .select cs b) (hd : ∀ t, d = some t → t ∉ o.looksAt ops.toArray) : Val P (put f d u) o w v ↔ Val P f o w v := by
  unfold Val
  rw [execOp_congr o hs (ev_put' (f := f) (v := u) hd)]

theorem valOk_put {k : Nat} {f : F} {d : Option Tmp} {u v : Value} {o : Oper} {h : H} (hs : ∀ cs b, o.op ≠ .select cs b) (hd : ∀ t, d = some t → t ∉ o.looksAt ops.toArray) : ValOk P ops k o (put f d u) h v ↔ ValOk P ops k o f h v := by
  unfold ValOk
  rw [want_put' (f := f) (v := u) hd]
  simp only [val_put' (P := P) hs hd]

theorem newArgs_operands {op : Op} (hn : isNew op = true) : ∀ x ∈ newArgs op, x ∈ op.operands := by
  intro x hx
  cases op <;> simp only [isNew, Bool.false_eq_true] at hn <;> simp_all [newArgs, Op.operands]

theorem new_put' {f : F} {d : Option Tmp} {u : Value} {o : Oper} (hn : isNew o.op = true) (hd : ∀ t, d = some t → t ∉ o.looksAt ops.toArray) : newC P (put f d u) o.op = newC P f o.op ∧ newCells P (put f d u) o.op = newCells P f o.op ∧ newVal P (put f d u) o.op = newVal P f o.op :=
  new_congr hn fun x hx => ev_put' hd x (newArgs_operands hn x hx)

theorem callee_put' {f : F} {d : Option Tmp} {u : Value} {o : Oper} {c : Call} (ho : o.op = .call c) (hd : ∀ t, d = some t → t ∉ o.looksAt ops.toArray) : callee (put f d u) c = callee f c := by
  have h := ev_put' (f := f) (v := u) hd
  rw [ho] at h
  have h : ∀ x ∈ c.operands, ev (put f d u) x = ev f x := h
  have hargs : c.args.toList.map (ev (put f d u)) = c.args.toList.map (ev f) := List.map_congr_left fun x hx => h x (by simp only [Call.operands, Array.mem_append]; exact .inr (by simpa using hx))
  unfold callee
  cases hc : c.callee with
  | value x => dsimp only; rw [h x (by simp [Call.operands, hc]), hargs]
  | invoke r m => rfl
  | builtin b => rfl

theorem opVC_put4 {f : F} {d : Option Tmp} {u : Value} {o : Oper} {h : H} {K : Value → H → Prop} (h1 : heapFree o.op = false) (h2 : isReadOp o.op = false) (h3 : isNew o.op = false) (hd : ∀ t, d = some t → t ∉ o.looksAt ops.toArray) (hx : opVC P false (put f d u) h o K) : opVC P false f h o K := by
  have he := ev_put' (f := f) (v := u) hd
  have hcal : ∀ c, o.op = .call c → callee (put f d u) c = callee f c := fun c ho => callee_put' ho hd
  unfold opVC at hx ⊢
  cases hop : o.op with
  | store t a x =>
    rw [hop] at hx he
    have e1 := he a (by simp [Op.operands])
    have e2 := he x (by simp [Op.operands])
    simp only [isWrite, cond_true, cond_false, writeVC, e1, e2] at hx ⊢
    exact hx
  | call c =>
    rw [hop] at hx he h2
    have ha : ∀ x ∈ c.args.toList, ev (put f d u) x = ev f x := fun x hx => he x (by simp only [Op.operands, Call.operands, Array.mem_append]; exact .inr (by simpa using hx))
    have hcl := hcal c hop
    obtain ⟨cal, as, tys⟩ := c
    dsimp only at hx ha ⊢
    cases cal with
    | value x =>
      dsimp only at hx ⊢
      rw [hcl] at hx
      exact hx
    | invoke r m =>
      have e1 := he r (by simp [Op.operands, Call.operands])
      have e2 : as.toList.map (ev (put f d u)) = as.toList.map (ev f) := List.map_congr_left ha
      simp only [cond_false, e1, e2] at hx ⊢
      exact hx
    | builtin b =>
      cases b with
      | append =>
        simp only [cond_false, writeVC] at hx ⊢
        split at hx
        · rename_i t t' s x ht hax
          try dsimp only at hax
          rw [ha s (by rw [hax]; simp), ha x (by rw [hax]; simp)] at hx
          first | exact hx | (simp only [hax, ht]; exact hx) | (simp only [ht]; exact hx) | (simp only [hax]; exact hx)
        · exact hx.elim
      | clear =>
        simp only [cond_false, writeVC] at hx ⊢
        split at hx
        · rename_i t ts s ss ht hax
          try dsimp only at hax
          rw [ha s (by rw [hax]; simp)] at hx
          first | exact hx | (simp only [hax, ht]; exact hx) | (simp only [ht]; exact hx) | (simp only [hax]; exact hx)
        · exact hx.elim
      | len => simp [isReadOp] at h2
      | min => simp [isReadOp] at h2
      | max => simp [isReadOp] at h2
      | _ => exact (show False from hx).elim
  | load t a => rw [hop] at h2; simp [isReadOp] at h2
  | alloc t => rw [hop] at h3; simp [isNew] at h3
  | box t x => rw [hop] at h3; simp [isNew] at h3
  | buildSlice t l ps => rw [hop] at h3; simp [isNew] at h3
  | makeSlice t l c => rw [hop] at h3; simp [isNew] at h3
  | _ =>
    rw [hop] at hx h1
    first | (simp [heapFree] at h1; done) | exact (show False from hx).elim

/-! two steps that may change places -/

structure Facts (P : Program) (ops : List Oper) (kd : List Nat) (i j : Nat) (oi oj : Oper) : Prop where
  hi : ops[i]? = some oi
  hj : ops[j]? = some oj
  ij : ∀ d, oi.dst = some d → d ∉ oj.looksAt ops.toArray
  ji : ∀ d, oj.dst = some d → d ∉ oi.looksAt ops.toArray
  ne : ∀ d, oi.dst = some d → oj.dst ≠ some d
  si : ∀ cs b, oi.op ≠ .select cs b
  sj : ∀ cs b, oj.op ≠ .select cs b
  n4 : kd.getD j 4 = 4 → heapFree oj.op = false ∧ isReadOp oj.op = false ∧ isNew oj.op = false
  n3 : kd.getD j 4 = 3 → isNew oj.op = true
  kk : kd.getD i 4 = 0 ∨ (kd.getD i 4 = 1 ∧ kd.getD j 4 ≠ 4) ∨ (kd.getD i 4 = 2 ∧ kd.getD j 4 = 3 ∧ ∀ f, newC P f oj.op) ∨ (kd.getD i 4 = 3 ∧ (kd.getD j 4 = 3 ∨ kd.getD j 4 = 0))

theorem Facts.pc {kd : List Nat} {i j : Nat} {oi oj : Oper} (F0 : Facts P ops kd i j oi oj) {f : F} {v u : Value} : put (put f oi.dst v) oj.dst u = put (put f oj.dst u) oi.dst v := put_comm' F0.ne

theorem VL_swap {kd : List Nat} {K : F → H → Prop} {i j : Nat} {oi oj : Oper} {l : List Nat} {f : F} {h : H} (F0 : Facts P ops kd i j oi oj) (hU : Unb h) (hv : VL P ops kd K (i :: j :: l) f h) : VL P ops kd K (j :: i :: l) f h := by
  obtain ⟨own1, p1, oi', hi', ts⟩ := hv
  obtain rfl : oi = oi' := Option.some.inj (F0.hi.symm.trans hi')
  have hU1 : Unb ⟨own1, h.ro⟩ := Unb.perm (own := h.own) hU p1
  cases ts with
  | val v hv hT =>
    obtain ⟨own2, p2, oj', hj', tj⟩ := hT
    obtain rfl : oj = oj' := Option.some.inj (F0.hj.symm.trans hj')
    have hv2 : ValOk P ops (kd.getD i 4) oi f ⟨own2, h.ro⟩ v := hv.mono fun w hw => (Gh.perm2 p2.symm).holds w hw
    refine ⟨own2, p2.trans p1, oj, F0.hj, ?_⟩
    -- ahead of what is left, the value
    have back : ∀ (f' : F) (h' : H), ValOk P ops (kd.getD i 4) oi f' h' v → VL P ops kd K l (put f' oi.dst v) h' → VL P ops kd K (i :: l) f' h' := fun f' h' a b => ⟨h'.own, .refl _, oi, F0.hi, .val v a b⟩
    cases tj with
    | val u hu hT2 =>
      refine .val u ((valOk_put F0.sj F0.ij).1 hu) (back _ _ ((valOk_put F0.si F0.ji).2 hv2) ?_)
      rw [← F0.pc]; exact hT2
    | new hw hk hn hT2 =>
      obtain ⟨c1, c2, c3⟩ := new_put' (P := P) (f := f) (u := v) hn F0.ij
      rw [want_put' F0.ij] at hw
      refine .new hw hk hn fun r fr => ?_
      have h2 := hT2 r fr
      rw [c1, c2, c3] at h2
      refine ⟨h2.1, back _ _ ((valOk_put F0.si F0.ji).2 (hv2.mono fun w hw => add_holds hw)) ?_⟩
      rw [← F0.pc]; exact h2.2
    | call hw hk c m args ho hc hb hT2 =>
      rw [want_put' F0.ij] at hw
      rw [callee_put' ho F0.ij] at hc
      refine .call hw hk c m args ho hc hb (hT2.monoU fun u h' _ hro ⟨he, hx⟩ => ⟨he, back _ _ ((valOk_put F0.si F0.ji).2 (hv2.mono fun w hw => ext_holds he hro hw)) ?_⟩)
      rw [← F0.pc]; exact hx
    | other hw hk K0 hx hT2 =>
      rw [want_put' F0.ij] at hw
      obtain ⟨n1, n2, n3⟩ := F0.n4 hk
      refine .other hw hk K0 (opVC_put4 n1 n2 n3 F0.ij hx) fun u h' hu hK => back _ _ ((valOk_put F0.si F0.ji).2 ?_) ?_
      · have hk0 : kd.getD i 4 = 0 := by
          rcases F0.kk with h | ⟨_, h⟩ | ⟨_, h, _⟩ | ⟨_, h⟩
          · exact h
          · exact absurd hk h
          · omega
          · omega
        rcases hv2 with hv2 | ⟨a, ⟨b, c⟩ | ⟨b, c⟩⟩
        · exact .inl hv2
        · exact .inr ⟨a, .inl ⟨b, c⟩⟩
        · omega
      · rw [← F0.pc]; exact hT2 u h' hu hK
  | new hw hk hn hT =>
    have hkj : kd.getD j 4 = 3 ∨ kd.getD j 4 = 0 := by
      rcases F0.kk with h | ⟨h, _⟩ | ⟨h, _⟩ | ⟨_, h⟩
      · omega
      · omega
      · omega
      · exact h
    rcases hkj with hkj | hk0
    rotate_left
    · -- a value of its operands alone: the same whatever the row's number
      have at' : ∀ r, (⟨own1, h.ro⟩ : H).fresh r → newC P f oi.op ∧ ∃ u, ValOk P ops (kd.getD j 4) oj f ⟨own1, h.ro⟩ u ∧ VL P ops kd K l (put (put f oi.dst (newVal P f oi.op r)) oj.dst u) ⟨own1 ++ [⟨some r, newCells P f oi.op, (newCells P f oi.op).length⟩], h.ro⟩ := by
        intro r fr
        obtain ⟨a, own2, p2, oj', hj', tj⟩ := hT r fr
        obtain rfl : oj = oj' := Option.some.inj (F0.hj.symm.trans hj')
        refine ⟨a, ?_⟩
        cases tj with
        | val u hu hT2 =>
          refine ⟨u, ?_, VL_perm p2.symm hT2⟩
          rcases (valOk_put F0.sj F0.ij).1 hu with x | ⟨x, y | y⟩
          · exact .inl x
          · exact .inr ⟨x, .inl y⟩
          · omega
        | new _ h => omega
        | call _ h => omega
        | other _ h => omega
      have same : ∀ {u u' : Value}, ValOk P ops (kd.getD j 4) oj f ⟨own1, h.ro⟩ u → ValOk P ops (kd.getD j 4) oj f ⟨own1, h.ro⟩ u' → u = u' := by
        intro u u' a b
        rcases a with ⟨a, rfl⟩ | ⟨a, ⟨_, a2⟩ | ⟨a2, _⟩⟩
        · rcases b with ⟨_, rfl⟩ | ⟨b, _⟩
          · rfl
          · rw [a] at b; cases b
        · rcases b with ⟨b, _⟩ | ⟨_, ⟨_, b2⟩ | ⟨b2, _⟩⟩
          · rw [a] at b; cases b
          · have h1 := a2 default
            have h2 := b2 default
            unfold Val at h1 h2
            rw [h1] at h2
            injection h2 with h3
            injection h3
          · omega
        · omega
      obtain ⟨N, hN⟩ := hU1
      obtain ⟨_, u0, hu0, _⟩ := at' N (hN N (Nat.le_refl _))
      refine ⟨own1, p1, oj, F0.hj, .val u0 hu0 ⟨own1, .refl _, oi, F0.hi, .new (by rw [want_put' F0.ji]; exact hw) hk hn fun r fr => ?_⟩⟩
      obtain ⟨c1, c2, c3⟩ := new_put' (P := P) (f := f) (u := u0) hn F0.ji
      rw [c1, c2, c3]
      obtain ⟨a, u, hu, hv⟩ := at' r fr
      rw [same hu hu0] at hv
      refine ⟨a, ?_⟩
      rw [← F0.pc]
      exact hv
    have hnj := F0.n3 hkj
    cases hwj : wantF ops f oj with
    | false =>
      refine ⟨own1, p1, oj, F0.hj, .val undef (.inl ⟨hwj, rfl⟩) ⟨own1, .refl _, oi, F0.hi, .new (by rw [want_put' F0.ji]; exact hw) hk hn fun r fr => ?_⟩⟩
      obtain ⟨c1, c2, c3⟩ := new_put' (P := P) (f := f) (u := undef) hn F0.ji
      rw [c1, c2, c3]
      obtain ⟨a, own2, p2, oj', hj', tj⟩ := hT r fr
      obtain rfl : oj = oj' := Option.some.inj (F0.hj.symm.trans hj')
      refine ⟨a, ?_⟩
      have no : wantF ops (put f oi.dst (newVal P f oi.op r)) oj = true → False := fun h => by rw [want_put' F0.ij, hwj] at h; cases h
      cases tj with
      | val u hu hT2 =>
        rcases hu with ⟨_, rfl⟩ | ⟨h, _⟩
        · rw [← F0.pc]; exact VL_perm p2.symm hT2
        · exact (no h).elim
      | new h => exact (no h).elim
      | call h => exact (no h).elim
      | other h => exact (no h).elim
    | true =>
      have get : ∀ r, (⟨own1, h.ro⟩ : H).fresh r → newC P f oi.op ∧ ∀ r', (⟨own1 ++ [⟨some r, newCells P f oi.op, (newCells P f oi.op).length⟩], h.ro⟩ : H).fresh r' → newC P f oj.op ∧
          VL P ops kd K l (put (put f oi.dst (newVal P f oi.op r)) oj.dst (newVal P f oj.op r')) ⟨(own1 ++ [⟨some r, newCells P f oi.op, (newCells P f oi.op).length⟩]) ++ [⟨some r', newCells P f oj.op, (newCells P f oj.op).length⟩], h.ro⟩ := by
        intro r fr
        obtain ⟨a, own2, p2, oj', hj', tj⟩ := hT r fr
        obtain rfl : oj = oj' := Option.some.inj (F0.hj.symm.trans hj')
        refine ⟨a, fun r' fr' => ?_⟩
        cases tj with
        | val u hu hT2 =>
          rcases hu with ⟨hh, _⟩ | ⟨_, ⟨h, _⟩ | ⟨h, _⟩⟩
          · rw [want_put' F0.ij, hwj] at hh; cases hh
          · omega
          · omega
        | new hw2 hk2 hn2 hT2 =>
          have h2 := hT2 r' ⟨fun e he => fr'.1 e (p2.mem_iff.1 he), fr'.2⟩
          obtain ⟨c1, c2, c3⟩ := new_put' (P := P) (f := f) (u := newVal P f oi.op r) hnj F0.ij
          rw [c1, c2, c3] at h2
          exact ⟨h2.1, VL_perm (p2.symm.append_right _) h2.2⟩
        | call _ h => omega
        | other _ h => omega
      refine ⟨own1, p1, oj, F0.hj, .new hwj hkj hnj fun r' fr' => ?_⟩
      have cj : newC P f oj.op := by
        obtain ⟨N, hN⟩ := hU1
        obtain ⟨N2, hN2⟩ := Unb.add (own := own1) (ro := h.ro) ⟨N, hN⟩ ⟨some N, newCells P f oi.op, (newCells P f oi.op).length⟩
        exact ((get N (hN N (Nat.le_refl _))).2 N2 (hN2 N2 (Nat.le_refl _))).1
      refine ⟨cj, own1 ++ [⟨some r', newCells P f oj.op, (newCells P f oj.op).length⟩], .refl _, oi, F0.hi, .new (by rw [want_put' F0.ji]; exact hw) hk hn fun r fr => ?_⟩
      obtain ⟨c1, c2, c3⟩ := new_put' (P := P) (f := f) (u := newVal P f oj.op r') hn F0.ji
      rw [c1, c2, c3]
      have fr1 : (⟨own1, h.ro⟩ : H).fresh r := ⟨fun e he => fr.1 e (by simp [he]), fr.2⟩
      have hne : r ≠ r' := fun e => fr.1 ⟨some r', newCells P f oj.op, (newCells P f oj.op).length⟩ (by simp) (by rw [e]; rfl)
      obtain ⟨a, b⟩ := get r fr1
      obtain ⟨_, b⟩ := b r' ⟨fun e he => by
        simp only [List.mem_append, List.mem_singleton] at he
        rcases he with he | rfl
        · exact fr'.1 e he
        · intro h; exact hne (Option.some.inj h), fr'.2⟩
      refine ⟨a, ?_⟩
      rw [← F0.pc]
      refine VL_perm ?_ b
      rw [List.append_assoc, List.append_assoc]
      exact List.Perm.append_left _ (List.Perm.swap _ _ [])
  | call hw hk c m args ho hc hb hT =>
    obtain ⟨hkj, hal⟩ : kd.getD j 4 = 3 ∧ ∀ f, newC P f oj.op := by
      rcases F0.kk with h | ⟨h, _⟩ | ⟨_, h, h2⟩ | ⟨h, _⟩
      · omega
      · omega
      · exact ⟨h, h2⟩
      · omega
    have hnj := F0.n3 hkj
    cases hwj : wantF ops f oj with
    | false =>
      refine ⟨own1, p1, oj, F0.hj, .val undef (.inl ⟨hwj, rfl⟩) ⟨own1, .refl _, oi, F0.hi, .call (by rw [want_put' F0.ji]; exact hw) hk c m args ho (by rw [callee_put' ho F0.ji]; exact hc) hb (hT.monoU fun v h' _ _ ⟨he, own2, p2, oj', hj', tj⟩ => ⟨he, ?_⟩)⟩⟩
      obtain rfl : oj = oj' := Option.some.inj (F0.hj.symm.trans hj')
      have no : wantF ops (put f oi.dst v) oj = true → False := fun h => by rw [want_put' F0.ij, hwj] at h; cases h
      cases tj with
      | val u hu hT2 =>
        rcases hu with ⟨_, rfl⟩ | ⟨h, _⟩
        · rw [← F0.pc]; exact VL_perm (own := own2) (own' := h'.own) p2.symm hT2
        · exact (no h).elim
      | new h => exact (no h).elim
      | call h => exact (no h).elim
      | other h => exact (no h).elim
    | true =>
      refine ⟨own1, p1, oj, F0.hj, .new hwj hkj hnj fun r fr => ⟨hal f, ?_⟩⟩
      refine ⟨own1 ++ [⟨some r, newCells P f oj.op, (newCells P f oj.op).length⟩], .refl _, oi, F0.hi, .call (by rw [want_put' F0.ji]; exact hw) hk c m args ho (by rw [callee_put' ho F0.ji]; exact hc) hb ?_⟩
      have fr0 := SemCall.frame (A := []) (L := own1) (C := [⟨some r, newCells P f oj.op, (newCells P f oj.op).length⟩]) (ro := h.ro) (q := fun v h'' => ∃ L' ro', h'' = ⟨L' ++ [⟨some r, newCells P f oj.op, (newCells P f oj.op).length⟩], ro'⟩ ∧ OwnExt ⟨own1, h.ro⟩ ⟨L', ro'⟩ ∧ VL P ops kd K (j :: l) (put f oi.dst v) ⟨L', ro'⟩) hT (fun v L' ro' hx _ => ⟨L', ro', rfl, hx⟩)
      refine fr0.monoU fun v h'' hw2 _ ⟨L', ro', e, ⟨X, hX⟩, own2, p2, oj', hj', tj⟩ => ?_
      subst e
      obtain rfl : oj = oj' := Option.some.inj (F0.hj.symm.trans hj')
      refine ⟨⟨X, ?_⟩, ?_⟩
      · have k1 : (L' ++ ([⟨some r, newCells P f oj.op, (newCells P f oj.op).length⟩] : List Ent)).Perm ((own1 ++ X) ++ ([⟨some r, newCells P f oj.op, (newCells P f oj.op).length⟩] : List Ent)) := hX.append_right _
        refine k1.trans ?_
        dsimp only
        rw [List.append_assoc, List.append_assoc]
        exact List.Perm.append_left _ List.perm_append_comm
      · cases tj with
        | val u hu hT2 =>
          rcases hu with ⟨hh, _⟩ | ⟨_, ⟨h, _⟩ | ⟨h, _⟩⟩
          · rw [want_put' F0.ij, hwj] at hh; cases hh
          · omega
          · omega
        | new hw3 hk2 hn2 hT2 =>
          obtain ⟨w', hw'⟩ := hw2
          have frr : (⟨own2, ro'⟩ : H).fresh r := by
            refine ⟨fun e he hid => ?_, fun a u ha hb2 => ?_⟩
            · have nd := hw'.nd
              simp only [List.filterMap_append, List.nodup_append, List.mem_filterMap] at nd
              exact nd.2.2 r ⟨e, p2.mem_iff.1 he, hid⟩ r (by simp) rfl
            · exact hw'.ap a u ha ⟨some r, newCells P f oj.op, (newCells P f oj.op).length⟩ (by simp) (by rw [hb2]; rfl)
          have h2 := (hT2 r frr).2
          obtain ⟨c1, c2, c3⟩ := new_put' (P := P) (f := f) (u := v) hnj F0.ij
          rw [c2, c3, F0.pc] at h2
          exact VL_perm (p2.symm.append_right _) h2
        | call _ h => omega
        | other _ h => omega
  | other hw hk K0 hx hT =>
    exfalso
    rcases F0.kk with h | ⟨h, _⟩ | ⟨h, _⟩ | ⟨h, _⟩ <;> omega

theorem VL_bubble {kd : List Nat} {K : F → H → Prop} {j : Nat} {oj : Oper} {l2 : List Nat} : ∀ (l1 : List Nat) (f : F) (h : H), (∀ i ∈ l1, ∃ oi, Facts P ops kd i j oi oj) → Unb h → VL P ops kd K (l1 ++ j :: l2) f h → VL P ops kd K (j :: (l1 ++ l2)) f h
  | [], _, _, _, _, hv => hv
  | i :: l1, f, h, hF, hU, hv => by
    obtain ⟨oi, hFi⟩ := hF i (by simp)
    refine VL_swap hFi hU ?_
    obtain ⟨own1, p1, o, ho, ts⟩ := hv
    exact ⟨own1, p1, o, ho, ts.mono (Unb.perm (own := h.own) hU p1) fun f' h' hU' hv' => VL_bubble l1 f' h' (fun k hk => hF k (by simp [hk])) hU' hv'⟩

/-! from what is shown -/

theorem step_guardQ {q : Bool} {o : Oper} {kn : List (Nat × Bool)} {f : F} {h : H} {K : List (Nat × Bool) → F → H → Prop} (hkn : KnOk kn f) (hx : stepGuardQ P ops q o kn f h K) :
    (wantF ops f o = false ∧ ∃ kn', KnOk kn' f ∧ K (knDel kn' o.dst) (put f o.dst undef) h) ∨ (wantF ops f o = true ∧ ∃ kn', KnOk kn' f ∧ stepOpQ P q o kn' f h K) := by
  unfold stepGuardQ at hx
  unfold wantF
  split at hx
  · rename_i hg; simp only [hg]; exact .inr ⟨trivial, kn, hkn, hx⟩
  · rename_i j b hg
    simp only [hg]
    split at hx
    · rename_i hs; simp only [hs]; exact .inl ⟨trivial, kn, hkn, hx⟩
    · rename_i s hs
      simp only [hs]
      split at hx
      · rename_i t ht
        rw [hkn s t ht]
        cases hb : (t == b) <;> simp only [hb, cond_true, cond_false] at hx
        · exact .inl ⟨hb, kn, hkn, hx⟩
        · exact .inr ⟨hb, kn, hkn, hx⟩
      · split at hx
        · rename_i t hft
          rw [hft]
          cases t
          · have hx2 := hx.2 rfl
            rw [upd_self hft] at hx2
            cases hb : (false == b) <;> simp only [hb, cond_true, cond_false] at hx2
            · exact .inl ⟨hb, _, hkn.cons hft, hx2⟩
            · exact .inr ⟨hb, _, hkn.cons hft, hx2⟩
          · have hx2 := hx.1 rfl
            rw [upd_self hft] at hx2
            cases hb : (true == b) <;> simp only [hb, cond_true, cond_false] at hx2
            · exact .inl ⟨hb, _, hkn.cons hft, hx2⟩
            · exact .inr ⟨hb, _, hkn.cons hft, hx2⟩
        · rename_i hft; rw [hft]; exact .inl ⟨rfl, kn, hkn, hx⟩
        · exact hx.elim

theorem knOf_free {kn : List (Nat × Bool)} {op : Op} {t : Bool} (h : knOf kn op = some t) : heapFree op = true := by
  unfold knOf at h
  split at h <;> first | rfl | cases h

theorem kind_spec {an : List Nat} {j : Nat} {o : Oper} (ho : ops[j]? = some o) : (kindB ops an j = 0 ∧ heapFree o.op = true) ∨ (kindB ops an j = 1 ∧ heapFree o.op = false ∧ isReadOp o.op = true) ∨ (kindB ops an j = 2 ∧ heapFree o.op = false ∧ isReadOp o.op = false ∧ isCallV o.op = true) ∨
    (kindB ops an j = 3 ∧ heapFree o.op = false ∧ isReadOp o.op = false ∧ isNew o.op = true) ∨ (kindB ops an j = 4 ∧ heapFree o.op = false ∧ isReadOp o.op = false ∧ isNew o.op = false) := by
  unfold kindB
  simp only [ho]
  cases h0 : heapFree o.op
  · cases h1 : isReadOp o.op
    · cases h3 : isNew o.op
      · generalize ((List.range ops.length).any _) = z
        cases h2 : isCallV o.op <;> cases z <;> simp
      · simp
    · simp
  · simp

theorem conv_op {an : List Nat} {j : Nat} {o : Oper} {kn : List (Nat × Bool)} {f : F} {h : H} {K : List (Nat × Bool) → F → H → Prop} {T : F → H → Prop} (ho : ops[j]? = some o) (hkn : KnOk kn f) (hw : wantF ops f o = true) (hT : ∀ kn' f' h', KnOk kn' f' → K kn' f' h' → T f' h')
    (hx : stepOpQ P (Nat.beq (kindB ops an j) 2) o kn f h K) : TS P ops (kindB ops an j) o T f h := by
  have hks := kind_spec (an := an) ho
  unfold stepOpQ at hx
  split at hx
  · rename_i t d ht hd
    have hk : kindB ops an j = 0 := by
      have := knOf_free ht
      rcases hks with ⟨a, _⟩ | ⟨a, b, _⟩ | ⟨a, b, _⟩ | ⟨a, b, _⟩ | ⟨a, b, _⟩
      · exact a
      all_goals (rw [b] at this; cases this)
    refine .val (.bool t) (.inr ⟨hw, .inl ⟨hk, fun w => knOf_spec hkn ht w⟩⟩) ?_
    rw [hd]
    exact hT _ _ _ (hkn.known d t) hx
  · rcases hks with ⟨a, b⟩ | ⟨a, b0, b⟩ | ⟨a, b0, b1, b⟩ | ⟨a, b0, b1, b⟩ | ⟨a, b⟩ <;> rw [a] at hx <;> simp only [Nat.beq, cond_true, cond_false] at hx
    · obtain ⟨v, hv, hk⟩ := readVC_sound (heapFree_opVC b hx)
      exact .val v (.inr ⟨hw, .inl ⟨a, fun w => hv w (holds_empty w)⟩⟩) (hT _ _ _ (hkn.put _ _) hk)
    · have hx' : readVC P f h o.op fun v => K (knDel kn o.dst) (put f o.dst v) h := by
        unfold opVC at hx
        cases hop : o.op with
        | load t x => rw [hop] at hx; exact hx
        | call c =>
          rw [hop] at hx b
          obtain ⟨cal, as, tys⟩ := c
          cases cal with
          | builtin bb => cases bb <;> first | exact hx | (simp [isReadOp] at b; done)
          | value x => simp [isReadOp] at b
          | invoke r m => simp [isReadOp] at b
        | _ => rw [hop] at b; simp [isReadOp] at b
      obtain ⟨v, hv, hk⟩ := readVC_sound hx'
      exact .val v (.inr ⟨hw, .inr ⟨a, hv⟩⟩) (hT _ _ _ (hkn.put _ _) hk)
    · unfold opVCq at hx
      split at hx
      · rename_i c hop
        split at hx
        · rename_i m args hc
          obtain ⟨hb, hx⟩ := cond_some hx
          exact .call hw a c m args hop hc hb (hx.mono fun v h' ⟨p, q⟩ => ⟨p, hT _ _ _ (hkn.put _ _) (resVC_spec q)⟩)
        · exact hx.elim
      · exact hx.elim
    · have := (opVC_new b).1 hx
      exact .new hw a b fun r fr => ⟨this.1, hT _ _ _ (hkn.put _ _) (this.2 r fr)⟩
    · exact .other hw a _ hx fun v h' _ hK => hT _ _ _ (hkn.put _ _) hK

theorem lex_conv {an : List Nat} {kd : List Nat} {K : F → H → Prop} : ∀ (l : List Nat) (kn : List (Nat × Bool)) (f : F) (h : H), (∀ j ∈ l, kd.getD j 4 = kindB ops an j) → KnOk kn f → execLex P ops kd K l kn f h → VL P ops kd K l f h
  | [], _, _, h, _, _, hx => ⟨h, Gh.refl h, hx⟩
  | j :: l, kn, f, h, hkd, hkn, hx => by
    unfold execLex at hx
    split at hx
    · exact hx.elim
    · rename_i o ho
      refine ⟨h.own, .refl _, o, ho, ?_⟩
      have rec_ : ∀ kn f h, KnOk kn f → execLex P ops kd K l kn f h → VL P ops kd K l f h := fun kn f h hk hy => lex_conv l kn f h (fun k hk => hkd k (by simp [hk])) hk hy
      rw [hkd j (by simp)] at hx ⊢
      rcases step_guardQ hkn hx with ⟨hw, kn', hk', hx'⟩ | ⟨hw, kn', hk', hx'⟩
      · exact .val undef (.inl ⟨hw, rfl⟩) (rec_ _ _ _ (hk'.put _ _) hx')
      · exact conv_op ho hk' hw (fun kn2 f2 h2 a b => rec_ kn2 f2 h2 a b) hx'

/-! those ahead -/

def foldA (acc : List Nat) (l : List Edge) (m : Nat) : Nat := l.foldl (fun m e => cond (Region.binds .any e) (Nat.lor m (Nat.lor (2 ^ e.on) (acc.getD e.on 0))) m) m
theorem foldA_bit {acc : List Nat} {i : Nat} : ∀ (l : List Edge) (m : Nat), Nat.testBit (foldA acc l m) i = true → Nat.testBit m i = true ∨ ∃ e ∈ l, Region.binds .any e = true ∧ (i = e.on ∨ Nat.testBit (acc.getD e.on 0) i = true)
  | [], _, h => .inl h
  | e :: l, m, h => by
    have h : Nat.testBit (foldA acc l (cond (Region.binds .any e) (Nat.lor m (Nat.lor (2 ^ e.on) (acc.getD e.on 0))) m)) i = true := h
    rcases foldA_bit l _ h with h1 | ⟨e', he, hb, hx⟩
    · cases hb : Region.binds .any e
      · rw [hb] at h1; exact .inl h1
      · rw [hb, cond_true] at h1
        have h1 : Nat.testBit (m ||| (2 ^ e.on ||| acc.getD e.on 0)) i = true := h1
        rw [Nat.testBit_or, Nat.testBit_or, Nat.testBit_two_pow] at h1
        simp only [Bool.or_eq_true, decide_eq_true_eq] at h1
        rcases h1 with h1 | h1 | h1
        · exact .inl h1
        · exact .inr ⟨e, by simp, hb, .inl h1.symm⟩
        · exact .inr ⟨e, by simp, hb, .inr h1⟩
    · exact .inr ⟨e', by simp [he], hb, hx⟩
theorem ancGo_pre : ∀ (l : List Oper) (acc : List Nat), acc <+: ancGo acc l
  | [], acc => List.prefix_refl _
  | o :: l, acc => (List.prefix_append acc _).trans (ancGo_pre l _)
theorem ancGo_at : ∀ (l : List Oper) (acc : List Nat) (m : Nat) (o : Oper), l[m]? = some o → ∃ acc', acc' <+: ancGo acc l ∧ acc'.length = acc.length + m ∧ (ancGo acc l).getD (acc.length + m) 0 = foldA acc' o.after.toList 0
  | [], _, _, _, h => by simp at h
  | x :: l, acc, 0, o, h => by
    simp at h
    subst h
    refine ⟨acc, ancGo_pre (x :: l) acc, rfl, ?_⟩
    obtain ⟨t, ht⟩ := ancGo_pre l (acc ++ [foldA acc x.after.toList 0])
    show (ancGo (acc ++ [foldA acc x.after.toList 0]) l).getD (acc.length + 0) 0 = _
    rw [← ht, Nat.add_zero, List.getD_eq_getElem?_getD, List.append_assoc, List.getElem?_append_right (Nat.le_refl _), Nat.sub_self]
    rfl
  | x :: l, acc, m + 1, o, h => by
    obtain ⟨acc', h1, h2, h3⟩ := ancGo_at l (acc ++ [foldA acc x.after.toList 0]) m o (by simpa using h)
    simp only [List.length_append, List.length_cons, List.length_nil] at h2 h3
    refine ⟨acc', h1, by omega, ?_⟩
    rw [show acc.length + (m + 1) = acc.length + (0 + 1) + m by omega]
    exact h3
theorem anc_spec {i j : Nat} {o : Oper} (ho : ops[j]? = some o) (h : ahead (ancs ops) i j = true) : ∃ e ∈ o.after, Region.binds .any e = true ∧ (i = e.on ∨ ahead (ancs ops) i e.on = true) := by
  obtain ⟨acc', ⟨t, ht⟩, h2, h3⟩ := ancGo_at ops [] j o ho
  simp only [List.length_nil, Nat.zero_add] at h2 h3
  unfold ahead at h ⊢
  rw [show (ancs ops).getD j 0 = foldA acc' o.after.toList 0 from h3] at h
  rcases foldA_bit _ _ h with h4 | ⟨e, he, hb, hx⟩
  · simp at h4
  · refine ⟨e, by simpa using he, hb, hx.imp id fun hx => ?_⟩
    have e1 : (ancs ops).getD e.on 0 = acc'.getD e.on 0 ∨ acc'.getD e.on 0 = 0 := by
      by_cases hlt : e.on < acc'.length
      · left
        show (ancGo [] ops).getD e.on 0 = _
        rw [← ht, List.getD_eq_getElem?_getD, List.getD_eq_getElem?_getD, List.getElem?_append_left hlt]
      · right
        rw [List.getD_eq_getElem?_getD, List.getElem?_eq_none (by omega)]; rfl
    rcases e1 with e1 | e1
    · rw [e1]; exact hx
    · rw [e1] at hx; simp at hx

theorem topo_spec {c : Nat} {post : List Nat} {o : Oper} (ho : ops[c]? = some o) : ∀ (pre seen : List Nat), topoB ops seen (pre ++ c :: post) = true → ∀ e ∈ o.after, Region.binds .any e = true → e.on ∈ seen ∨ e.on ∈ pre
  | [], seen, h, e, he, hb => by
    simp only [List.nil_append, topoB, ho, Bool.and_eq_true, List.all_eq_true, Bool.or_eq_true, Bool.not_eq_true'] at h
    rcases h.1 e (by simpa using he) with h1 | h1
    · rw [hb] at h1; cases h1
    · exact .inl (memB_iff.1 h1)
  | p :: pre, seen, h, e, he, hb => by
    simp only [List.cons_append, topoB, Bool.and_eq_true] at h
    rcases topo_spec ho pre (p :: seen) h.2 e he hb with h1 | h1
    · simp only [List.mem_cons] at h1
      rcases h1 with h1 | h1
      · exact .inr (by simp [h1])
      · exact .inl h1
    · exact .inr (by simp [h1])
theorem topo_some : ∀ (l seen : List Nat), topoB ops seen l = true → ∀ j ∈ l, ∃ o, ops[j]? = some o
  | p :: l, seen, h, j, hj => by
    simp only [topoB, Bool.and_eq_true] at h
    simp only [List.mem_cons] at hj
    by_cases hjl : j ∈ l
    · exact topo_some l _ h.2 j hjl
    · have e : j = p := hj.resolve_right hjl
      subst e
      cases ho : ops[j]? with
      | some o => exact ⟨o, rfl⟩
      | none => have h1 := h.1; simp only [ho] at h1; cases h1

theorem pairs_spec {an kd : List Nat} : ∀ {l : List Nat}, pairsB P ops an kd l = true → l.Pairwise fun i j => pairB P ops an kd i j = true
  | [], _ => .nil
  | i :: l, h => by
    simp only [pairsB, Bool.and_eq_true, List.all_eq_true] at h
    exact List.Pairwise.cons h.1 (pairs_spec h.2)

theorem kinds_at {j : Nat} {o : Oper} (ho : ops[j]? = some o) : (kinds ops).getD j 4 = kindB ops (ancs ops) j := by
  have hlt := (List.getElem?_eq_some_iff.1 ho).1
  unfold kinds
  rw [List.getD_eq_getElem?_getD, List.getElem?_map, List.getElem?_range hlt]
  rfl

theorem facts_of {i j : Nat} {oi oj : Oper} (hs : Region.noSelect ops.toArray = true) (hi : ops[i]? = some oi) (hj : ops[j]? = some oj) (hp : pairB P ops (ancs ops) (kinds ops) i j = true) (hna : ahead (ancs ops) i j = false) : Facts P ops (kinds ops) i j oi oj := by
  unfold pairB at hp
  simp only [hna, Bool.false_or, hi, hj, Bool.and_eq_true] at hp
  obtain ⟨⟨a1, a2⟩, hk⟩ := hp
  obtain ⟨b1, b2, _⟩ := Oper.apart_spec a1
  obtain ⟨c1, _, _⟩ := Oper.apart_spec a2
  have ki := kinds_at hi
  have kj := kinds_at hj
  have hi' : ops.toArray[i]? = some oi := by simpa using hi
  have hj' : ops.toArray[j]? = some oj := by simpa using hj
  refine ⟨hi, hj, b1, c1, b2, fun cs b => Region.noSelect_spec hs i oi cs b hi', fun cs b => Region.noSelect_spec hs j oj cs b hj', fun h => ?_, fun h => ?_, ?_⟩
  · rw [kj] at h
    rcases kind_spec (an := ancs ops) hj with ⟨a, _⟩ | ⟨a, _⟩ | ⟨a, _⟩ | ⟨a, _⟩ | ⟨a, b⟩
    all_goals first | exact b | omega
  · rw [kj] at h
    rcases kind_spec (an := ancs ops) hj with ⟨a, _⟩ | ⟨a, _⟩ | ⟨a, _⟩ | ⟨a, _, _, b⟩ | ⟨a, _⟩
    all_goals first | exact b | omega
  · split at hk
    · rename_i h1; exact .inl h1
    · rename_i h1 h2; exact .inr (.inl ⟨h1, by omega⟩)
    · rename_i h1 h2; exact .inr (.inl ⟨h1, by omega⟩)
    · rename_i h1 h2; exact .inr (.inl ⟨h1, by omega⟩)
    · rename_i h1 h2; exact .inr (.inl ⟨h1, by omega⟩)
    · rename_i h1 h2
      refine .inr (.inr (.inl ⟨h1, h2, fun f => ?_⟩))
      unfold allocB at hk
      simp only [hj] at hk
      split at hk
      · rename_i t ht
        rw [ht]
        exact Option.isSome_iff_exists.1 hk
      · cases hk
    · rename_i h1 h2; exact .inr (.inr (.inr ⟨h1, .inl h2⟩))
    · rename_i h1 h2; exact .inr (.inr (.inr ⟨h1, .inr h2⟩))
    · cases hk

def remL (ops : List Oper) (L : Array Bool) : List Nat := (canon ops).filter fun j => !(L.getD j true)

theorem getD_in {L : Array Bool} {i : Nat} (h : i < L.size) : L.getD i false = L.getD i true := by simp [Array.getD, h]

theorem lex_sound {K : F → H → Prop} {N : Act → World → Prop} (hs : Region.noSelect ops.toArray = true) (hok : lexOK P ops = true) (hd : ∀ d ∈ dsts ops, d < n ∧ d ∈ W)
    (fin : ∀ f h a w, Inv n w0 h0 f h a w → Agree W fS f → K f h → N a w) :
    ∀ (k : Nat) (L : Array Bool) (f : F) (h : H) (a : Act) (w : World), L.size = ops.length → (remL ops L).length = k → (∀ j, j < ops.length → L.getD j true = true → ∀ i, ahead (ancs ops) i j = true → L.getD i true = true) →
      Inv n w0 h0 f h a w → Agree W fS f → VL P ops (kinds ops) K (remL ops L) f h → wpAny P .any ops.toArray (NQ N) k L a w := by
  simp only [lexOK, Bool.and_eq_true, List.all_eq_true] at hok
  obtain ⟨hnd, hall, htopo, hpairs⟩ := hok
  have hnd := nodupB_spec hnd
  have hpw := pairs_spec hpairs
  intro k
  induction k with
  | zero =>
    intro L f h a w hsz hk hcl hi hag hv
    have hr0 : remL ops L = [] := List.eq_nil_of_length_eq_zero hk
    rw [hr0] at hv
    obtain ⟨h2, g, hK⟩ := hv
    refine ⟨?_, fin f h2 a w (hi.gh2 g) hag hK⟩
    refine List.eq_nil_iff_forall_not_mem.2 fun j hj => ?_
    obtain ⟨h1, o, ho, _⟩ := mem_ready.1 hj
    have hlt : j < ops.length := by simpa using (Array.getElem?_eq_some_iff.1 ho).1
    have : j ∈ remL ops L := List.mem_filter.2 ⟨memB_iff.1 (hall j (List.mem_range.2 hlt)), by rw [h1]; rfl⟩
    rw [hr0] at this; simp at this
  | succ k ih =>
    intro L f h a w hsz hk hcl hi hag hv
    have rdy : ∀ j, j ∈ Region.ready .any ops.toArray L → j ∈ remL ops L ∧ j < ops.length := by
      intro j hj
      obtain ⟨h1, o, ho, _⟩ := mem_ready.1 hj
      have hlt : j < ops.length := by simpa using (Array.getElem?_eq_some_iff.1 ho).1
      exact ⟨List.mem_filter.2 ⟨memB_iff.1 (hall j (List.mem_range.2 hlt)), by rw [h1]; rfl⟩, hlt⟩
    refine ⟨fun hnil => ?_, fun j hj => ?_⟩
    · exfalso
      cases hrem : remL ops L with
      | nil => rw [hrem] at hk; simp at hk
      | cons c rest =>
        obtain ⟨pre, post, hc, hpre, hcp, _⟩ := List.filter_eq_cons_iff.1 hrem
        have hcL : L.getD c true = false := by simpa using hcp
        obtain ⟨o, ho⟩ := topo_some _ _ htopo c (by rw [hc]; simp)
        rw [hc] at htopo
        have : c ∈ Region.ready .any ops.toArray L := by
          refine mem_ready.2 ⟨hcL, o, by simpa using ho, fun e he hb => ?_⟩
          have h1 := (topo_spec ho pre [] htopo e he hb).resolve_left (by simp)
          have h2 := hpre e.on h1
          have h3 : L.getD e.on true = true := by simpa using h2
          obtain ⟨o', ho'⟩ := topo_some _ _ htopo e.on (by simp [h1])
          have hlt : e.on < L.size := by rw [hsz]; exact (List.getElem?_eq_some_iff.1 ho').1
          rw [getD_in hlt]; exact h3
        rw [hnil] at this; simp at this
    · obtain ⟨hjr, hjlt⟩ := rdy j hj
      obtain ⟨hjL, o, hoA, hdeps⟩ := mem_ready.1 hj
      have ho : ops[j]? = some o := by simpa using hoA
      obtain ⟨l1, l2, hl⟩ := List.append_of_mem hjr
      have hpr : (remL ops L).Pairwise fun i j => pairB P ops (ancs ops) (kinds ops) i j = true := hpw.sublist (List.filter_sublist)
      have hndr : (remL ops L).Nodup := hnd.sublist (List.filter_sublist)
      rw [hl] at hpr hndr hv hk
      -- whoever is ahead of it is done
      have done : ∀ i, ahead (ancs ops) i j = true → L.getD i true = true := by
        intro i hai
        obtain ⟨e, he, hb, hx⟩ := anc_spec ho hai
        have h1 := hdeps e he hb
        have hlt : e.on < L.size := by
          rcases Nat.lt_or_ge e.on L.size with h | h
          · exact h
          · simp [Array.getElem?_eq_none h] at h1
        rw [getD_in hlt] at h1
        rcases hx with rfl | hx
        · exact h1
        · exact hcl e.on (by omega) h1 i hx
      have hF : ∀ i ∈ l1, ∃ oi, Facts P ops (kinds ops) i j oi o := by
        intro i hil
        have hir : i ∈ remL ops L := by rw [hl]; simp [hil]
        have hiL : L.getD i true = false := by simpa using (List.mem_filter.1 hir).2
        obtain ⟨oi, hoi⟩ := topo_some _ _ htopo i (List.mem_filter.1 hir).1
        refine ⟨oi, facts_of hs hoi ho ?_ ?_⟩
        · exact (List.pairwise_append.1 hpr).2.2 i hil j (by simp)
        · cases hb : ahead (ancs ops) i j
          · rfl
          · rw [done i hb] at hiL; cases hiL
      have hv2 := VL_bubble l1 f h hF (unb_of hi.holds) hv
      obtain ⟨own', p, o', ho', ts⟩ := hv2
      obtain rfl : o = o' := Option.some.inj (ho.symm.trans ho')
      have hi2 : Inv n w0 h0 f ⟨own', h.ro⟩ a w := hi.gh2 (Gh.perm2 p)
      have hrem2 : remL ops (L.setIfInBounds j true) = l1 ++ l2 := by
        have e1 : remL ops (L.setIfInBounds j true) = (remL ops L).filter fun x => !(x == j) := by
          unfold remL
          rw [List.filter_filter]
          refine List.filter_congr fun x _ => ?_
          by_cases hxj : x = j
          · subst hxj
            have : (L.setIfInBounds x true).getD x true = true := by
              by_cases hlt : x < L.size <;> simp [hlt]
            rw [this]; simp
          · rw [getD_set_ne true (Ne.symm hxj)]
            simp [hxj]
        rw [e1, hl, List.filter_append, List.filter_cons]
        have hj1 : j ∉ l1 := fun h => by
          rw [List.nodup_append] at hndr
          exact hndr.2.2 j h j (by simp) rfl
        have hj2 : j ∉ l2 := fun h => by
          rw [List.nodup_append, List.nodup_cons] at hndr
          exact hndr.2.1.1 h
        have f1 : l1.filter (fun x => !(x == j)) = l1 := List.filter_eq_self.2 fun x hx => by
          have : x ≠ j := fun e => hj1 (e ▸ hx)
          simp [this]
        have f2 : l2.filter (fun x => !(x == j)) = l2 := List.filter_eq_self.2 fun x hx => by
          have : x ≠ j := fun e => hj2 (e ▸ hx)
          simp [this]
        simp [f1, f2]
      have hlen2 : (remL ops (L.setIfInBounds j true)).length = k := by
        rw [hrem2]
        simp only [List.length_append, List.length_cons] at hk ⊢
        omega
      have hcl2 : ∀ x, x < ops.length → (L.setIfInBounds j true).getD x true = true → ∀ i, ahead (ancs ops) i x = true → (L.setIfInBounds j true).getD i true = true := by
        intro x hx hxL i hai
        have up : L.getD i true = true → (L.setIfInBounds j true).getD i true = true := by
          intro h1
          by_cases e : j = i
          · subst e; by_cases hlt : j < L.size <;> simp [hlt]
          · rw [getD_set_ne true e]; exact h1
        by_cases e : j = x
        · subst e; exact up (done i hai)
        · rw [getD_set_ne true e] at hxL
          exact up (hcl x hx hxL i hai)
      have hd0 : ∀ t, o.dst = some t → t < n ∧ t ∈ W := fun t ht => hd t (mem_dsts_get ho ht)
      have next : ∀ (v : Value) (h' : H) (w' : World), Holds w' h' → Fr w w' ⟨own', h.ro⟩ h' → VL P ops (kinds ops) K (l1 ++ l2) (put f o.dst v) h' → wpAny P .any ops.toArray (NQ N) k (L.setIfInBounds j true) (a.put o.dst v) w' := by
        intro v h' w' g1 g2 g3
        refine ih _ _ h' _ w' (by simpa using hsz) hlen2 hcl2 ⟨hi2.rel.put (fun t ht => (hd0 t ht).1) v, g1, hi2.fr.trans g2⟩ (hag.put (fun t ht => (hd0 t ht).2) v) ?_
        rw [hrem2]; exact g3
      unfold wpOp
      simp only [hoA]
      rw [wantF_spec hi2.rel]
      have skip : wantF ops f o = false → VL P ops (kinds ops) K (l1 ++ l2) (put f o.dst undef) ⟨own', h.ro⟩ → (if wantF ops f o = true then o.wp P a w (wpAny P .any ops.toArray (NQ N) k (L.setIfInBounds j true)) (NQ N) ∨ (o.asks P a w ∧ LetsOut (NQ N)) else wpAny P .any ops.toArray (NQ N) k (L.setIfInBounds j true) (a.put o.dst undef) w) := by
        intro hw hx
        rw [hw, if_neg (by simp)]
        exact next _ _ w hi2.holds (Fr.refl _ _) hx
      cases ts with
      | val v hv hT =>
        rcases hv with ⟨hw, rfl⟩ | ⟨hw, hv⟩
        · exact skip hw hT
        · rw [hw, if_pos rfl]
          left
          have hval : Val P f o w v := by
            rcases hv with ⟨_, hv⟩ | ⟨_, hv⟩
            · exact hv w
            · exact hv w hi2.holds
          unfold Val at hval
          unfold Oper.wp
          rw [hi2.rel.eval, hval, Oper.upon_value]
          exact next v _ w hi2.holds (Fr.refl _ _) hT
      | new hw hk hn hT =>
        rw [hw, if_pos rfl]
        left
        have hc : newC P f o.op := (hT _ (fresh_ge hi2.holds (Nat.le_refl _))).1
        refine opVC_wp (K := fun v h' => VL P ops (kinds ops) K (l1 ++ l2) (put f o.dst v) h') hi2.rel.eval hi2.holds ((opVC_new hn).2 ⟨hc, fun r fr => (hT r fr).2⟩) (fun v w' h' g1 g2 g3 => next v h' w' g1 g2 g3)
      | call hw hk c m args hop hc hb hT =>
        rw [hw, if_pos rfl]
        left
        unfold Oper.wp
        rw [hi2.rel.eval, callee_run hop hc hb, Oper.upon_enter]
        refine (hT w hi2.holds).mono fun e w' ⟨v, h', he', hh, hf, hp⟩ => ?_
        subst he'
        exact next v h' w' hh hf hp.2
      | other hw hk K0 hx hT =>
        rw [hw, if_pos rfl]
        left
        exact opVC_wp hi2.rel.eval hi2.holds hx (fun v w' h' g1 g2 g3 => next v h' w' g1 g2 (hT v h' (unb_of g1) g3))

theorem regionVC_sound {i : Nat} {arr : Array Oper} {draw : Bool} {tail : Option Nat} {Q : Exit → F → H → Prop} {f : F} {h : H} {a : Act} {w : World} (hm : P.follows .mixedOrders = true)
    (hd : ∀ d ∈ dsts arr.toList, d < n) (hi : Inv n w0 h0 f h a w) (hx : regionVC P arr.toList draw tail (Q .normal) f h) :
    (Code.region i arr draw).wp P (PostQ n w0 h0 (dsts arr.toList) f Q) a w := by
  have hd' : ∀ d ∈ dsts arr.toList, d < n ∧ d ∈ dsts arr.toList := fun d h => ⟨hd d h, h⟩
  have hkn : KnOk [] f := fun s t h => by simp [knGet] at h
  unfold regionVC at hx
  cases draw <;> simp only [cond_true, cond_false] at hx
  · refine wp_region_list ?_
    have := execOps_seq (ops := arr.toList) (Q := PostQ n w0 h0 (dsts arr.toList) f Q) (fS := f) (W := dsts arr.toList) (fun f' h' a' w' g1 g2 g3 => ⟨f', h', g1, g2, g3⟩) arr.toList [] f h a w hd' hkn hi (Agree.refl _ _) hx
    simpa using this
  · cases tail with
    | none =>
      obtain ⟨hB, hx⟩ := cond_some hx
      refine wp_region_still hm (by simpa using hB) ?_
      have := execOps_still (ops := arr.toList) (fS := f) (W := dsts arr.toList) (L := fun a' => PostQ n w0 h0 (dsts arr.toList) f Q .normal a' { w with drawn := w.drawn + 1 }) (drew_holds hi.holds)
        (fun f' a' g1 g2 g3 => ⟨f', h, ⟨g1, drew_holds hi.holds, hi.fr.trans (drew_fr w h)⟩, g2, g3⟩) arr.toList [] f a hd' hkn hi.rel (Agree.refl _ _) hx
      simpa using this
    | some m =>
      cases hmm : Nat.beq m 1000000 <;> simp only [hmm, cond_true, cond_false] at hx
      · cases hm4 : Nat.beq m 1000003 <;> simp only [hm4, cond_true, cond_false] at hx
        rotate_left
        · obtain ⟨hB, hx⟩ := cond_some hx
          rw [Bool.and_eq_true] at hB
          have hB2 := hB.2
          simp only [lexOK, Bool.and_eq_true] at hB2
          have hv := lex_conv (P := P) (an := ancs arr.toList) (canon arr.toList) [] f h (fun j hj => by
            obtain ⟨o, ho⟩ := topo_some _ _ hB2.2.2.1 j hj
            exact kinds_at ho) hkn hx
          have hr : remL arr.toList (Array.replicate arr.toList.length false) = canon arr.toList := by
            refine List.filter_eq_self.2 fun j hj => ?_
            obtain ⟨o, ho⟩ := topo_some _ _ hB2.2.2.1 j hj
            have hlt := (List.getElem?_eq_some_iff.1 ho).1
            simp only [Array.length_toList] at hlt
            simp [hlt]
          have hlen : (canon arr.toList).length = arr.toList.length := by
            refine Nat.le_antisymm ?_ ?_
            · have := List.Nodup.length_le_of_subset (nodupB_spec hB2.1) (l₂ := List.range arr.toList.length) (fun j hj => by
                obtain ⟨o, ho⟩ := topo_some _ _ hB2.2.2.1 j hj
                exact List.mem_range.2 (List.getElem?_eq_some_iff.1 ho).1)
              simpa using this
            · have := List.Nodup.length_le_of_subset (List.nodup_range (n := arr.toList.length)) (l₂ := canon arr.toList) (fun j hj => memB_iff.1 (List.all_eq_true.1 hB2.2.1 j hj))
              simpa using this
          have h1 := lex_sound (P := P) (fS := f) (W := dsts arr.toList) (N := fun a' w' => PostQ n w0 h0 (dsts arr.toList) f Q .normal a' w') hB.1 hB.2 hd' (fun f' h' a' w' g1 g2 g3 => ⟨f', h', g1, g2, g3⟩)
            arr.toList.length (Array.replicate arr.toList.length false) f h a { w with drawn := w.drawn + 1 } (by simp) (by rw [hr, hlen]) (fun j hj hjL => by
              have hlt : j < arr.size := by simpa using hj
              simp [hlt] at hjL) hi.drew (Agree.refl _ _) (by rw [hr]; exact hv)
          have h2 : wpAny P .any arr (NQ fun a' w' => PostQ n w0 h0 (dsts arr.toList) f Q .normal a' w') arr.size (Array.replicate arr.size false) a { w with drawn := w.drawn + 1 } := by simpa using h1
          refine wp_mono (wp_region_any (id := i) hm h2) (fun e a' w' hq => ?_)
          cases e <;> first | exact hq | exact hq.elim
        cases hm3 : Nat.beq m 1000002 <;> simp only [hm3, cond_true, cond_false] at hx
        rotate_left
        · obtain ⟨hB, hx⟩ := cond_some hx
          have h1 := execAny3_sound (P := P) (fS := f) (W := dsts arr.toList) (N := fun a' w' => PostQ n w0 h0 (dsts arr.toList) f Q .normal a' w') hB hd' (fun f' h' a' w' g1 g2 g3 => ⟨f', h', g1, g2, g3⟩)
            arr.toList.length (Array.replicate arr.toList.length false) [] f h a { w with drawn := w.drawn + 1 } hkn hi.drew (Agree.refl _ _) hx
          have h2 : wpAny P .any arr (NQ fun a' w' => PostQ n w0 h0 (dsts arr.toList) f Q .normal a' w') arr.size (Array.replicate arr.size false) a { w with drawn := w.drawn + 1 } := by simpa using h1
          refine wp_mono (wp_region_any (id := i) hm h2) (fun e a' w' hq => ?_)
          cases e <;> first | exact hq | exact hq.elim
        cases hm2 : Nat.beq m 1000001 <;> simp only [hm2, cond_true, cond_false] at hx
        · obtain ⟨hB, hx⟩ := cond_some hx
          have := execOps_still (ops := arr.toList) (fS := f) (W := dsts arr.toList) (L := fun a' => wpList P arr.toList.toArray (PostQ n w0 h0 (dsts arr.toList) f Q) (arr.toList.drop m) a' { w with drawn := w.drawn + 1 }) (drew_holds hi.holds)
            (fun f' a' g1 g2 g3 => execOps_seq (ops := arr.toList) (fS := f) (W := dsts arr.toList) (fun f2 h2 a2 w2 k1 k2 k3 => ⟨f2, h2, k1, k2, k3⟩) (arr.toList.drop m) [] f' h a' _
              (fun d hdm => hd' d (dsts_drop _ _ _ hdm)) (fun s t h => by simp [knGet] at h) ⟨g1, drew_holds hi.holds, hi.fr.trans (drew_fr w h)⟩ g2 g3)
            (arr.toList.take m) [] f a (fun d hdm => hd' d (dsts_take _ _ _ hdm)) hkn hi.rel (Agree.refl _ _) hx
          have h2 := wp_region_still_tail (P := P) (id := i) (Q := PostQ n w0 h0 (dsts arr.toList) f Q) (l := arr.toList) m hm hB this
          simpa using h2
        · obtain ⟨hB, hx⟩ := cond_some hx
          have h1 := execAny_sound (P := P) (hp := fun _ _ _ h => h) (fS := f) (W := dsts arr.toList) (N := fun a' w' => PostQ n w0 h0 (dsts arr.toList) f Q .normal a' w') hB hd' (fun f' h' a' w' g1 g2 g3 => ⟨f', h', g1, g2, g3⟩)
            arr.toList.length (Array.replicate arr.toList.length false) [] f h a { w with drawn := w.drawn + 1 } hkn hi.drew (Agree.refl _ _) hx
          have h2 : wpAny P .any arr (NQ fun a' w' => PostQ n w0 h0 (dsts arr.toList) f Q .normal a' w') arr.size (Array.replicate arr.size false) a { w with drawn := w.drawn + 1 } := by simpa using h1
          refine wp_mono (wp_region_any (id := i) hm h2) (fun e a' w' hq => ?_)
          cases e <;> first | exact hq | exact hq.elim
      · obtain ⟨hB, hx⟩ := cond_some hx
        have h1 := execAny_sound (P := P) (hp := fun _ _ _ h => pureAt_two h) (fS := f) (W := dsts arr.toList) (N := fun a' w' => PostQ n w0 h0 (dsts arr.toList) f Q .normal a' w') hB hd' (fun f' h' a' w' g1 g2 g3 => ⟨f', h', g1, g2, g3⟩)
          arr.toList.length (Array.replicate arr.toList.length false) [] f h a { w with drawn := w.drawn + 1 } hkn hi.drew (Agree.refl _ _) hx
        have h2 : wpAny P .any arr (NQ fun a' w' => PostQ n w0 h0 (dsts arr.toList) f Q .normal a' w') arr.size (Array.replicate arr.size false) a { w with drawn := w.drawn + 1 } := by simpa using h1
        refine wp_mono (wp_region_any (id := i) hm h2) (fun e a' w' hq => ?_)
        cases e <;> first | exact hq | exact hq.elim

/-! ### relations over slots -/

theorem merge_agree {f f' : F} {W : List Nat} (h : Agree W f f') : merge f W f' = f' := by
  funext t
  show cond (memB t W) (f' t) (f t) = f' t
  cases hb : memB t W
  · rw [cond_false]
    exact (h t (fun hm => by rw [memB_iff.2 hm] at hb; cases hb)).symm
  · rfl

theorem appS_allS {k : F → H → Prop} : ∀ {S : Sl} {R : RelTy S} {f : F} {h : H}, appS S R f h → allS S R f k → ∃ h2, Gh h h2 ∧ k f h2
  | [], R, f, h, ⟨h2, g, hr⟩, hall => ⟨h2, g, hall h2 hr⟩
  | p :: S, R, f, h, ha, hall => by
    obtain ⟨x, hx, ha⟩ := Kd.elim_spec _ _ _ ha
    have := hall x
    rw [upd_self hx] at this
    exact appS_allS ha this

theorem Inv.gh {f : F} {h h2 : H} {a : Act} {w : World} (i : Inv n w0 h0 f h a w) (g : Gh h h2) : Inv n w0 h0 f h2 a w := ⟨i.rel, g.holds w i.holds, i.fr.trans (g.fr w)⟩

end

section
variable {P : Program} {n : Nat} {w0 : World} {h0 : H}

theorem wrap_sound {c : Code} {g : Hint} {Q : Exit → F → H → Prop} {f : F} {h : H} {a : Act} {w : World} {body : Hint → (Exit → F → H → Prop) → Prop}
    (hx : wrap g (writes c) Q f h body) (hb : ∀ g Q, body g Q → c.wp P (PostQ n w0 h0 (writes c) f Q) a w) : c.wp P (PostQ n w0 h0 (writes c) f Q) a w := by
  unfold wrap at hx
  split at hx
  · obtain ⟨R, h1, h2⟩ := hx
    refine wp_mono (hb _ _ h1) (fun e a' w' hq => ?_)
    obtain ⟨f', h', g1, g2, g3⟩ := hq
    cases e with
    | normal =>
      have := h2 f'
      rw [merge_agree g2] at this
      obtain ⟨h3, g4, g5⟩ := appS_allS g3 this
      exact ⟨f', h3, g1.gh g4, g2, g5⟩
    | exit id => exact ⟨f', h', g1, g2, g3⟩
    | goto l => exact ⟨f', h', g1, g2, g3⟩
    | ret => exact ⟨f', h', g1, g2, g3⟩
    | panic ch => exact ⟨f', h', g1, g2, g3⟩
    | outgrown => exact ⟨f', h', g1, g2, g3⟩
  · exact hb _ _ hx

theorem exec_sound (hm : P.follows .mixedOrders = true) : ∀ (c : Code) (g : Hint) (Q : Exit → F → H → Prop) (f : F) (h : H) (a : Act) (w : World), (∀ d ∈ writes c, d < n) → Inv n w0 h0 f h a w → exec P c g Q f h →
    c.wp P (PostQ n w0 h0 (writes c) f Q) a w
  | .skip, g, Q, f, h, a, w, _, hi, hx => wp_skip ⟨f, h, hi, Agree.refl _ _, hx⟩
  | .ret, g, Q, f, h, a, w, _, hi, hx => wp_ret ⟨f, h, hi, Agree.refl _ _, hx⟩
  | .exit id, g, Q, f, h, a, w, _, hi, hx => wp_exit ⟨f, h, hi, Agree.refl _ _, hx⟩
  | .region i arr draw, g, Q, f, h, a, w, hd, hi, hx => wrap_sound hx fun g Q hb => regionVC_sound hm hd hi hb
  | .seq x y, g, Q, f, h, a, w, hd, hi, hx => wrap_sound hx fun g Q hb => by
    have hdx : ∀ d ∈ writes x, d < n := fun d h => hd d (by simp [writes, h])
    have hdy : ∀ d ∈ writes y, d < n := fun d h => hd d (by simp [writes, h])
    refine wp_seq (wp_mono (exec_sound hm x g.l _ f h a w hdx hi hb) (fun e a' w' hq => ?_))
    obtain ⟨f', h', g1, g2, g3⟩ := hq
    cases e with
    | normal =>
      refine wp_mono (exec_sound hm y g.r _ f' h' a' w' hdy g1 g3) (fun e2 a2 w2 ⟨f2, h2, k1, k2, k3⟩ => ⟨f2, h2, k1, g2.trans k2 (fun t ht => by simp [writes, ht]) (fun t ht => by simp [writes, ht]), k3⟩)
    | exit id => exact ⟨f', h', g1, fun t ht => g2 t (fun hm => ht (by simp [writes, hm])), g3⟩
    | goto l => exact ⟨f', h', g1, fun t ht => g2 t (fun hm => ht (by simp [writes, hm])), g3⟩
    | ret => exact ⟨f', h', g1, fun t ht => g2 t (fun hm => ht (by simp [writes, hm])), g3⟩
    | panic ch => exact ⟨f', h', g1, fun t ht => g2 t (fun hm => ht (by simp [writes, hm])), g3⟩
    | outgrown => exact ⟨f', h', g1, fun t ht => g2 t (fun hm => ht (by simp [writes, hm])), g3⟩
  | .cond c x y, g, Q, f, h, a, w, hd, hi, hx => wrap_sound hx fun g Q hb => by
    have hdx : ∀ d ∈ writes x, d < n := fun d h => hd d (by simp [writes, h])
    have hdy : ∀ d ∈ writes y, d < n := fun d h => hd d (by simp [writes, h])
    split at hb
    · rename_i t ht
      have he : a.eval c = .bool t := by rw [hi.rel.eval]; exact ht
      cases t
      · refine wp_cond he (wp_mono (exec_sound hm y g.r Q f h a w hdy hi (hb.2 rfl)) (fun e2 a2 w2 ⟨f2, h2, k1, k2, k3⟩ => ⟨f2, h2, k1, fun t ht => k2 t (fun hm => ht (by simp [writes, hm])), k3⟩))
      · refine wp_cond he (wp_mono (exec_sound hm x g.l Q f h a w hdx hi (hb.1 rfl)) (fun e2 a2 w2 ⟨f2, h2, k1, k2, k3⟩ => ⟨f2, h2, k1, fun t ht => k2 t (fun hm => ht (by simp [writes, hm])), k3⟩))
    · exact hb.elim
  | .block id c, g, Q, f, h, a, w, hd, hi, hx => wrap_sound hx fun g Q hb => by
    refine wp_block (wp_mono (exec_sound hm c g.l _ f h a w hd hi hb) (fun e a' w' hq => ?_))
    obtain ⟨f', h', g1, g2, g3⟩ := hq
    cases e with
    | exit id' =>
      show if id' = id then PostQ n w0 h0 _ f Q .normal a' w' else PostQ n w0 h0 _ f Q (.exit id') a' w'
      by_cases hid : id' = id
      · subst hid
        simp only [Nat.beq_refl, cond_true] at g3
        rw [if_pos rfl]
        exact ⟨f', h', g1, g2, g3⟩
      · have : Nat.beq id' id = false := by
          cases hb : Nat.beq id' id
          · rfl
          · exact absurd (Nat.eq_of_beq_eq_true hb) hid
        simp only [this, cond_false] at g3
        rw [if_neg hid]
        exact ⟨f', h', g1, g2, g3⟩
    | normal => exact ⟨f', h', g1, g2, g3⟩
    | goto l => exact ⟨f', h', g1, g2, g3⟩
    | ret => exact ⟨f', h', g1, g2, g3⟩
    | panic ch => exact ⟨f', h', g1, g2, g3⟩
    | outgrown => exact ⟨f', h', g1, g2, g3⟩
  | .loop c, g, Q, f, h, a, w, hd, hi, hx => by
    unfold exec at hx
    split at hx
    · rename_i S g'
      obtain ⟨I, ⟨n1, hn1⟩, hround⟩ := hx
      refine wp_loop_ghost (fun m a w => ∃ f1 h1, Inv n w0 h0 f1 h1 a w ∧ Agree (writes c) f f1 ∧ appS S (I m) f1 h1) n1 ⟨f, h, hi, Agree.refl _ _, hn1⟩ ?_
      rintro m a1 w1 ⟨f1, h1, i1, ag1, ap1⟩
      have hr := hround m f1
      rw [merge_agree ag1] at hr
      obtain ⟨h2, gh2, hb⟩ := appS_allS ap1 hr
      refine wp_mono (exec_sound hm c g' _ f1 h2 a1 w1 hd (i1.gh gh2) hb) (fun e a' w' hq => ?_)
      obtain ⟨f', h', g1, g2, g3⟩ := hq
      have agt : Agree (writes c) f f' := ag1.trans g2 (fun _ h => h) (fun _ h => h)
      cases e with
      | normal =>
        obtain ⟨m', hlt, hap⟩ := g3
        exact ⟨m', hlt, f', h', g1, agt, hap⟩
      | exit id => exact ⟨f', h', g1, agt, g3⟩
      | goto l => exact ⟨f', h', g1, agt, g3⟩
      | ret => exact ⟨f', h', g1, agt, g3⟩
      | panic ch => exact ⟨f', h', g1, agt, g3⟩
      | outgrown => exact ⟨f', h', g1, agt, g3⟩
    · exact hx.elim
  | .rangeFunc _ _ _ _, g, Q, f, h, a, w, _, _, hx => by simp only [exec] at hx
  | .scope _, g, Q, f, h, a, w, _, _, hx => by simp only [exec] at hx
  | .label _, g, Q, f, h, a, w, _, _, hx => by simp only [exec] at hx
  | .goto _, g, Q, f, h, a, w, _, _, hx => by simp only [exec] at hx
  | .refuse _, g, Q, f, h, a, w, _, _, hx => by simp only [exec] at hx

/-! ### a function -/

def resOne (tmps : Array Value) (r : ResultVar) : Sem Value :=
  match r with
  | .tmp t => pure (tmps.getD t undef)
  | .cell a t => do loadVar t (← asAddr (tmps.getD a undef))

theorem resOne_tmp {f : F} {tmps : Array Value} {w : World} (hget : ∀ t, tmps.getD t undef = f t) (t : Tmp) : (resOne tmps (.tmp t)).run P w = .ok (f t) w := by
  simp only [resOne, Sem.run_pure, hget]
theorem resOne_cell {f : F} {tmps : Array Value} {w : World} (hget : ∀ t, tmps.getD t undef = f t) {a t : Nat} {ad : Addr} (had : f a = .pointer (some ad)) {v : Value} (hl : (loadVar t ad).run P w = .ok v w) :
    (resOne tmps (.cell a t)).run P w = .ok v w := by
  simp only [resOne, Sem.run_bind, hget, had, asAddr, Sem.run_pure, Result.andThen_ok, hl]

theorem resList_sound {f : F} {h : H} {tmps : Array Value} {w : World} (hget : ∀ t, tmps.getD t undef = f t) (hw : Holds w h) : ∀ (rs : List ResultVar) (K : List Value → Prop), resList P f h rs K →
    ∃ vs, (rs.mapM (resOne tmps)).run P w = .ok vs w ∧ K vs
  | [], K, hx => ⟨[], rfl, hx⟩
  | .tmp t :: rs, K, hx => by
    obtain ⟨vs, h1, h2⟩ := resList_sound hget hw rs _ hx
    refine ⟨f t :: vs, ?_, h2⟩
    simp only [List.mapM_cons, Sem.run_bind, resOne_tmp hget, Result.andThen_ok, h1, Sem.run_pure]
  | .cell a t :: rs, K, hx => by
    simp only [resList] at hx
    split at hx
    · rename_i ad had
      obtain ⟨ht, hx⟩ := cond_some hx
      obtain ⟨v, h1, h2⟩ := run_loadVar_get (a := ad) ht hx
      have h1 := h1 w (fun j v hv => rd_sound hw hv)
      obtain ⟨vs, h3, h4⟩ := resList_sound hget hw rs _ h2
      refine ⟨v :: vs, ?_, h4⟩
      simp only [List.mapM_cons, Sem.run_bind, resOne_cell hget had h1, Sem.run_pure, Result.andThen_ok, h3]
    · exact hx.elim

theorem results_eq (fn : Func) (tmps : Array Value) : results fn tmps = (do let vs ← fn.results.mapM (resOne tmps); pure (if h : vs.size = 1 then vs[0] else .tuple vs)) := by
  unfold results
  have e : (fun (x : ResultVar) => match x with | .tmp t => pure (tmps.getD t undef) | .cell a t => do loadVar t (← asAddr (tmps.getD a undef)) : ResultVar → Sem Value) = resOne tmps := by
    funext r; cases r <;> rfl
  rw [← e]
  rfl

theorem results_one {fn : Func} {tmps : Array Value} {w : World} {vs : List Value} (h : (fn.results.toList.mapM (resOne tmps)).run P w = .ok vs w) :
    (results fn tmps).run P w = .ok (one vs) w := by
  rw [results_eq, Sem.run_bind, Array.mapM_eq_mapM_toList, Sem.run_map, h]
  simp only [Result.andThen_ok, Sem.run_pure]
  congr 1
  match vs with
  | [] => rfl
  | [v] => rfl
  | _ :: _ :: _ => rfl

theorem sem_of_exec {fid : FuncId} {fn : Func} {c : Code} {g : Hint} {args : List Value} {h : H} {post : Value → H → Prop} (hm : P.follows .mixedOrders = true) (hf : P.funcs[fid]? = some fn) (hb : fn.body = some c)
    (hn : (Nat.ble args.length fn.ntmps && (writes c).all fun d => Nat.ble (d + 1) fn.ntmps) = true) (hx : exec P c g (retQ P fn post) (F0 args) h) : SemCall P fid args.toArray h post := by
  intro w hw
  rw [Bool.and_eq_true] at hn
  have hle := Nat.le_of_ble_eq_true hn.1
  have hd : ∀ d ∈ writes c, d < fn.ntmps := fun d hd => Nat.le_of_ble_eq_true (List.all_eq_true.1 hn.2 d hd)
  refine calls_of_wp hf hb ?_
  have hrel : Rel fn.ntmps (F0 args) { tmps := args.toArray ++ Array.replicate (fn.ntmps - args.toArray.size) undef, defers := [] } := by
    refine ⟨rfl, by simp; omega, fun t => ?_⟩
    show (args.toArray ++ Array.replicate (fn.ntmps - args.toArray.size) undef).getD t undef = args.getD t undef
    by_cases ht : t < args.length
    · simp [Array.getD, List.getD, ht, Nat.lt_add_right _ ht]
    · have e1 : args.getD t undef = undef := by simp [List.getD, List.getElem?_eq_none (Nat.le_of_not_lt ht)]
      rw [e1]
      simp only [Array.getD]
      split
      · rename_i hlt
        simp only [Array.getInternal_eq_getElem]
        rw [Array.getElem_append_right (by simpa using Nat.le_of_not_lt ht)]
        simp
      · rfl
  refine wp_mono (exec_sound (w0 := w) (h0 := h) hm c g _ _ h _ w hd ⟨hrel, hw, Fr.refl w h⟩ hx) (fun e a' w' hq => ?_)
  obtain ⟨f', h', g1, _, g3⟩ := hq
  have fin : resList P f' h' fn.results.toList (fun vs => VRet h' (one vs) post) → a'.defers = [] ∧ ∃ v, (results fn a'.tmps).run P w' = .ok v w' ∧ (∃ v0 h2, Ending.returned v = .returned v0 ∧ Holds w' h2 ∧ Fr w w' h h2 ∧ post v0 h2) := by
    intro hr
    obtain ⟨vs, k1, h2, k2, k3⟩ := resList_sound (P := P) g1.rel.get g1.holds _ _ hr
    exact ⟨g1.rel.defers, one vs, results_one k1, one vs, h2, rfl, k2.holds w' g1.holds, g1.fr.trans (k2.fr w'), k3⟩
  cases e with
  | normal => exact fin g3
  | ret => exact fin g3
  | exit id => exact g3.elim
  | goto l => exact g3.elim
  | panic ch => exact g3.elim
  | outgrown => exact g3.elim

end
end Go.Eng

namespace Go.Eng
def bodyOf (fn : Func) : Code := fn.body.getD .skip
theorem bodyOf_eq {fn : Func} (h : fn.body.isSome = true) : fn.body = some (bodyOf fn) := by
  unfold bodyOf
  cases hb : fn.body with
  | none => simp [hb] at h
  | some c => rfl
end Go.Eng
