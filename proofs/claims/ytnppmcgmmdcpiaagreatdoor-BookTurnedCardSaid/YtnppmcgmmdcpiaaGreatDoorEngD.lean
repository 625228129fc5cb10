import Derived.Test.YtnppmcgmmdcpiaaGreatDoorEngC
/- The engine, fourth part: soundness of the operations that read. -/
namespace Go.Eng
open Go.RowKit

theorem rdKs_spec {get : Nat → Value → Prop} : ∀ {ks : List Kd} {i : Nat} {K : List Value → Prop}, rdKs get ks i K →
    ∃ vs : List Value, vs.length = ks.length ∧ (∀ j v, vs[j]? = some v → get (i + j) v) ∧ K vs
  | [], i, K, h => ⟨[], rfl, by simp, h⟩
  | k :: ks, i, K, h => by
    obtain ⟨x, hx, h⟩ := h
    obtain ⟨vs, h1, h2, h3⟩ := rdKs_spec h
    refine ⟨k.val x :: vs, by simp [h1], fun j v hv => ?_, h3⟩
    cases j with
    | zero => simp at hv; subst hv; exact hx
    | succ j => have := h2 j v (by simpa using hv); rwa [show i + (j + 1) = i + 1 + j by omega]

theorem getVC_spec {P : Program} {t : TypeId} {get : Nat → Value → Prop} {K : Value → Prop} (h : getVC P t get K) :
    (isAggB P t = true ∧ ∃ vs : List Value, vs.length = P.cellsOf t ∧ (∀ j v, vs[j]? = some v → get j v) ∧ K (.agg vs.toArray)) ∨ (isAggB P t = false ∧ ∃ v, get 0 v ∧ K v) := by
  unfold getVC at h
  cases hb : isAggB P t <;> simp only [hb, cond_true, cond_false] at h
  · obtain ⟨x, h1, h2⟩ := h
    exact .inr ⟨rfl, _, h1, h2⟩
  · left
    refine ⟨rfl, ?_⟩
    cases hc : (Nat.ble (flat P 6 t).length 20 && Nat.beq (flat P 6 t).length (P.cellsOf t)) <;> simp only [hc, cond_true, cond_false] at h
    · exact h
    · obtain ⟨vs, h1, h2, h3⟩ := rdKs_spec h
      rw [Bool.and_eq_true] at hc
      exact ⟨vs, h1.trans (Nat.eq_of_beq_eq_true hc.2), fun j v hv => by simpa using h2 j v hv, h3⟩

theorem run_loadVar_get {P : Program} {t : TypeId} {a : Addr} {get : Nat → Value → Prop} {K : Value → Prop} (ht : (P.underlying t).isSome = true)
    (h : getVC P t get K) : ∃ v, (∀ w : World, (∀ j v, get j v → w.cell? (a.add j) = some v) → (loadVar t a).run P w = .ok v w) ∧ K v := by
  obtain ⟨d, hd⟩ := under_some ht
  obtain ⟨i, hi⟩ := info_of_under ht
  rcases getVC_spec h with ⟨hb, vs, h1, h2, h3⟩ | ⟨hb, v, h1, h2⟩
  · refine ⟨_, fun w hw => ?_, h3⟩
    have hl := run_loadCells_list (P := P) w a vs (fun j v hv => hw j v (h2 j v hv))
    rw [h1, cellsOf_eq hi] at hl
    simp only [loadVar, Sem.run_bind, run_isAgg hd, Result.andThen_ok, hb, if_true, sizeOf, typeInfo, run_program, hi, Sem.run_pure, hl]
  · refine ⟨v, fun w hw => ?_, h2⟩
    have h1 := hw _ _ h1
    simp only [add_zero'] at h1
    simp [loadVar, Sem.run_bind, run_isAgg hd, hb, h1]

theorem getVC_mono {P : Program} {t : TypeId} {get get' : Nat → Value → Prop} {K : Value → Prop} (hg : ∀ j v, get j v → get' j v) (h : getVC P t get K) : getVC P t get' K := by
  have hk : ∀ (ks : List Kd) (i : Nat) (K : List Value → Prop), rdKs get ks i K → rdKs get' ks i K := by
    intro ks
    induction ks with
    | nil => intro i K h; exact h
    | cons k ks ih => intro i K ⟨x, h1, h2⟩; exact ⟨x, hg _ _ h1, ih _ _ h2⟩
  unfold getVC at *
  cases hb : isAggB P t <;> simp only [hb, cond_true, cond_false] at h ⊢
  · obtain ⟨x, h1, h2⟩ := h; exact ⟨x, hg _ _ h1, h2⟩
  · cases hc : (Nat.ble (flat P 6 t).length 20 && Nat.beq (flat P 6 t).length (P.cellsOf t)) <;> simp only [hc, cond_true, cond_false] at h ⊢
    · obtain ⟨vs, h1, h2, h3⟩ := h; exact ⟨vs, h1, fun j v hv => hg _ _ (h2 j v hv), h3⟩
    · exact hk _ _ _ h

theorem wrap_in {n : Int} (h : In64 n) : IntKind.i64.wrap n = n := IntWalk.i64_in n h

def Val (P : Program) (f : F) (o : Oper) (w : World) (v : Value) : Prop := (execOp (ev f) o).run P w = .ok (.value v) w

section
variable {P : Program} {f : F} {w : World} {K : Value → Prop}

theorem intVC_sound {op : BinOp} {a b : Int} (h : intVC op a b K) : ∃ v, (∀ w : World, (binOp op 0 (.int .i64 a) (.int .i64 b)).run P w = .ok v w) ∧ K v := by
  cases op <;> simp only [intVC] at h
  case add => exact ⟨_, fun w => by simp [binOp, Op.intArith, wrap_in h.1], h.2⟩
  case sub => exact ⟨_, fun w => by simp [binOp, Op.intArith, wrap_in h.1], h.2⟩
  case mul => exact ⟨_, fun w => by simp [binOp, Op.intArith, wrap_in h.1], h.2⟩
  case quo => exact ⟨_, fun w => by simp [binOp, Op.intDiv, h.1, wrap_in h.2.1], h.2.2⟩
  case rem => exact ⟨_, fun w => by simp [binOp, Op.intDiv, h.1], h.2⟩
  case and => exact ⟨_, fun w => by simp [binOp, Op.intBits, bitsV], h⟩
  case or => exact ⟨_, fun w => by simp [binOp, Op.intBits, bitsV], h⟩
  case xor => exact ⟨_, fun w => by simp [binOp, Op.intBits, bitsV], h⟩
  case andNot => exact ⟨_, fun w => by simp [binOp, Op.intBits, bitsV], h⟩
  case shl =>
    obtain ⟨h0, h1, h2, h3⟩ := h
    refine ⟨_, fun w => ?_, h3⟩
    have e : min b.toNat 64 = b.toNat := by omega
    simp only [binOp, Op.shift, if_neg (Int.not_lt.2 h0), IntKind.bits, e, wrap_in h2]
    rfl
  case shr =>
    obtain ⟨h0, h1, h3⟩ := h
    refine ⟨_, fun w => ?_, h3⟩
    have e : min b.toNat 64 = b.toNat := by omega
    simp only [binOp, Op.shift, if_neg (Int.not_lt.2 h0), IntKind.bits, e]
    rfl
  case eql => exact ⟨_, fun w => by simp [binOp, Op.intCmp], h⟩
  case neq => exact ⟨_, fun w => by simp [binOp, Op.intCmp], h⟩
  case lss => exact ⟨_, fun w => by simp [binOp, Op.intCmp], h⟩
  case leq => exact ⟨_, fun w => by simp [binOp, Op.intCmp], h⟩
  case gtr => exact ⟨_, fun w => by simp [binOp, Op.intCmp], h⟩
  case geq => exact ⟨_, fun w => by simp [binOp, Op.intCmp], h⟩

theorem binOp_int_any (op : BinOp) (t : TypeId) (a b : Int) : binOp op t (.int .i64 a) (.int .i64 b) = binOp op 0 (.int .i64 a) (.int .i64 b) := by
  cases op <;> rfl

theorem eqGuard_int (op : BinOp) (t : TypeId) (x y : Operand) (a b : Int) (j k : IntKind) : (eqGuard op t x y (.int j a) (.int k b)).run P w = .ok () w := by
  cases op <;> simp [eqGuard]

theorem eqK_run {op : BinOp} {b : Bool} (h : eqK op b K) : (op = .eql ∧ K (.bool b)) ∨ (op = .neq ∧ K (.bool (!b))) := by
  cases op <;> simp only [eqK] at h <;> first | exact .inl ⟨rfl, h⟩ | exact .inr ⟨rfl, h⟩ | exact h.elim

theorem equal_bool' (d : Nat) {t : TypeId} (hu : P.underlying t = some .bool) (a b : Bool) : (Op.equalIn (d + 1) t (.bool a) (.bool b)).run P w = .ok (a == b) w := by
  simp only [Op.equalIn, Sem.run_bind, run_underlying hu, Result.andThen_ok, Sem.run_pure]
theorem equal_ptr' (d : Nat) {t e : TypeId} (hu : P.underlying t = some (.pointer e)) (p : Option Addr) : (Op.equalIn (d + 1) t (.pointer p) (.pointer none)).run P w = .ok p.isNone w := by
  cases p <;> simp only [Op.equalIn, Sem.run_bind, run_underlying hu, Result.andThen_ok, Sem.run_pure] <;> rfl
theorem equal_sl' (d : Nat) {t e : TypeId} (hu : P.underlying t = some (.slice e)) (a : Option Addr) (l c l' c' : Nat) : (Op.equalIn (d + 1) t (.slice a l c) (.slice none l' c')).run P w = .ok a.isNone w := by
  cases a <;> simp only [Op.equalIn, Sem.run_bind, run_underlying hu, Result.andThen_ok, Sem.run_pure] <;> rfl
theorem equal_if' (d : Nat) {t : TypeId} {ms : Array (String × TypeId)} (hu : P.underlying t = some (.interface ms)) (x : Value) (hi : isIfaceV x = true) : (Op.equalIn (d + 1) t x .nilIface).run P w = .ok (isNilV x) w := by
  cases x <;> simp [isIfaceV] at hi <;> simp only [Op.equalIn, Sem.run_bind, run_underlying hu, Result.andThen_ok, Sem.run_pure] <;> rfl

theorem equal_bool {t : TypeId} (hu : P.underlying t = some .bool) (a b : Bool) : (Op.equal t (.bool a) (.bool b)).run P w = .ok (a == b) w := equal_bool' 9999 hu a b
theorem equal_ptr {t e : TypeId} (hu : P.underlying t = some (.pointer e)) (p : Option Addr) : (Op.equal t (.pointer p) (.pointer none)).run P w = .ok p.isNone w := equal_ptr' 9999 hu p
theorem equal_sl {t e : TypeId} (hu : P.underlying t = some (.slice e)) (a : Option Addr) (l c l' c' : Nat) : (Op.equal t (.slice a l c) (.slice none l' c')).run P w = .ok a.isNone w := equal_sl' 9999 hu a l c l' c'
theorem equal_if {t : TypeId} {ms : Array (String × TypeId)} (hu : P.underlying t = some (.interface ms)) (x : Value) (hi : isIfaceV x = true) : (Op.equal t x .nilIface).run P w = .ok (isNilV x) w := equal_if' 9999 hu x hi

theorem eql_run {op : BinOp} {t : TypeId} {x y : Value} {b : Bool} {g : Sem Unit} (hg : ∀ w : World, g.run P w = .ok () w) (he : ∀ w : World, (Op.equal t x y).run P w = .ok b w)
    (h1 : binOp .eql t x y = (do pure (.bool (← Op.equal t x y)))) (h2 : binOp .neq t x y = (do pure (.bool (!(← Op.equal t x y))))) (h : eqK op b K) :
    ∃ v, (∀ w : World, ((do g; binOp op t x y) : Sem Value).run P w = .ok v w) ∧ K v := by
  rcases eqK_run h with ⟨rfl, hk⟩ | ⟨rfl, hk⟩
  · exact ⟨_, fun w => by simp only [Sem.run_bind, hg, Result.andThen_ok, h1, he, Sem.run_pure], hk⟩
  · exact ⟨_, fun w => by simp only [Sem.run_bind, hg, Result.andThen_ok, h2, he, Sem.run_pure], hk⟩

theorem wrap_u8 {n : Int} (h0 : 0 ≤ n) (h1 : n ≤ 255) : IntKind.u8.wrap n = n := by
  unfold IntKind.wrap
  simp [IntKind.signed, IntKind.bits]
  omega

theorem binVC_sound {op : BinOp} {t : TypeId} {xo yo : Operand} {x y : Value} (h : binVC P op t yo x y K) :
    ∃ v, (∀ w : World, ((do eqGuard op t xo yo x y; binOp op t x y) : Sem Value).run P w = .ok v w) ∧ K v := by
  unfold binVC at h
  split at h
  · -- int
    split at h
    · obtain ⟨v, h1, h2⟩ := intVC_sound (P := P) h
      exact ⟨v, fun w => by simp only [Sem.run_bind, eqGuard_int, Result.andThen_ok, binOp_int_any, h1], h2⟩
    · exact h.elim
  · -- bool
    rename_i b
    split at h
    · split at h
      · rename_i hu
        exact eql_run (fun w => by cases op <;> simp [eqGuard]) (fun w => equal_bool hu _ _) rfl rfl h
      · exact h.elim
    · exact h.elim
  · -- pointer nil
    split at h
    · split at h
      · rename_i hu
        exact eql_run (fun w => by cases op <;> simp [eqGuard]) (fun w => equal_ptr hu _) rfl rfl h
      · exact h.elim
    · exact h.elim
  · -- slice nil
    split at h
    · split at h
      · rename_i hu
        exact eql_run (fun w => by cases op <;> simp [eqGuard]) (fun w => equal_sl hu _ _ _ _ _) rfl rfl h
      · exact h.elim
    · exact h.elim
  · -- nil interface
    split at h
    · split at h
      · rename_i hu
        obtain ⟨hi, hk⟩ := h
        refine eql_run (fun w => ?_) (fun w => equal_if hu _ hi) ?_ ?_ hk
        · cases x <;> simp [isIfaceV] at hi <;> cases op <;> simp [eqGuard]
        · cases x <;> simp [isIfaceV] at hi <;> rfl
        · cases x <;> simp [isIfaceV] at hi <;> rfl
      · exact h.elim
    · exact h.elim
  · -- strings
    split at h
    · rename_i b _ a
      cases op <;> simp only [strVC] at h
      case add => exact ⟨_, fun w => by simp only [Sem.run_bind, eqGuard, Result.andThen_ok]; simp [binOp, Op.stringOp]; have := h.1; omega, h.2⟩
      case eql => exact ⟨_, fun w => by simp [eqGuard, binOp, Op.stringOp], h⟩
      case neq => exact ⟨_, fun w => by simp [eqGuard, binOp, Op.stringOp], h⟩
    · exact h.elim
  · -- bytes
    split at h
    · rename_i b _ a
      cases op <;> simp only [u8VC] at h
      case sub => exact ⟨_, fun w => by simp only [Sem.run_bind, eqGuard_int, Result.andThen_ok]; simp [binOp, Op.intArith, wrap_u8 h.1 h.2.1], h.2.2⟩
      all_goals exact ⟨_, fun w => by simp only [Sem.run_bind, eqGuard_int, Result.andThen_ok]; simp [binOp, Op.intCmp], h⟩
    · exact h.elim
  · exact h.elim

theorem unVC_sound {op : UnOp} {x : Value} (h : unVC op x K) : ∃ v, (∀ w : World, (Op.unary op x).run P w = .ok v w) ∧ K v := by
  unfold unVC at h
  split at h
  · exact ⟨_, fun w => by simp [Op.unary], h⟩
  · exact ⟨_, fun w => by simp only [Op.unary, Op.intArith, wrap_in h.1]; rfl, h.2⟩
  · exact h.elim

theorem convVC_sound {s d : TypeId} {x : Value} (h : convVC P s d x K) : ∃ v, (∀ w : World, (convert s d x).run P w = .ok v w) ∧ K v := by
  unfold convVC at h
  split at h
  · exact h.elim
  · rename_i hs
    split at h
    · rename_i hd
      refine ⟨_, fun w => ?_, h.2⟩
      simp [convert, run_underlying hs, run_underlying hd, Conv.intToInt, wrap_in h.1]
    · exact h.elim

theorem fieldAddrVC_sound {s : TypeId} {x : Value} {i : Nat} (h : fieldAddrVC P s x i K) : ∃ v, (∀ w : World, (Instr.fieldAt s x i).run P w = .ok v w) ∧ K v := by
  unfold fieldAddrVC at h
  split at h
  · rename_i hs
    split at h
    · rename_i fd hfd
      cases hc : Nat.beq (P.cellsOf fd.type) 0 <;> simp only [hc, cond_true, cond_false] at h
      · have hne : P.cellsOf fd.type ≠ 0 := fun h0 => by rw [h0] at hc; simp at hc
        have : ∃ i, P.info? fd.type = some i ∧ i.size ≠ 0 := by
          unfold Program.cellsOf at hne
          cases hi : P.info? fd.type with
          | none => simp [hi] at hne
          | some i => exact ⟨i, rfl, by simpa [hi] using hne⟩
        obtain ⟨i, hi, hz⟩ := this
        refine ⟨_, fun w => ?_, h⟩
        simp [Instr.fieldAt, run_underlying hs, hfd, Instr.sureAddr, fieldPlace, sizeOf, typeInfo, hi, hz]
    · exact h.elim
  · exact h.elim

theorem cond_some {c : Bool} {A : Prop} (h : cond c A False) : c = true ∧ A := by
  cases c
  · exact h.elim
  · exact ⟨rfl, h⟩

theorem run_sizeOf {e : TypeId} (he : (P.underlying e).isSome = true) : (sizeOf e).run P w = .ok (P.cellsOf e) w := by
  obtain ⟨i, hi⟩ := info_of_under he
  simp [sizeOf, typeInfo, hi, cellsOf_eq hi]

theorem idxAddrVC_sound {t : TypeId} {x ix : Value} (h : idxAddrVC P t x ix K) : ∃ v, (∀ w : World, (Instr.indexAt t x ix).run P w = .ok v w) ∧ K v := by
  unfold idxAddrVC at h
  split at h
  · split at h
    · rename_i hu
      obtain ⟨he, b, rfl, h0, h1, hk⟩ := cond_some h
      refine ⟨_, fun w => ?_, hk⟩
      simp only [Instr.indexAt, asIntOf, Sem.run_bind, Sem.run_pure, Result.andThen_ok, run_underlying hu, if_pos (And.intro h0 h1), run_sizeOf he]
    · rename_i hu
      obtain ⟨he, h0, h1, hk⟩ := cond_some h
      refine ⟨_, fun w => ?_, hk⟩
      simp only [Instr.indexAt, asIntOf, Sem.run_bind, Sem.run_pure, Result.andThen_ok, run_underlying hu, Instr.sureAddr, if_pos (And.intro h0 h1), run_sizeOf he]
    · exact h.elim
  · exact h.elim

theorem partVC_sound {t : TypeId} {cs : List Value} {off : Nat} (ht : isAggB P t = false → (P.underlying t).isSome = true) (h : partVC P t cs off K) : ∃ v, (∀ w : World, (part t cs.toArray off).run P w = .ok v w) ∧ K v := by
  unfold partVC at h
  cases hb : isAggB P t <;> simp only [hb, cond_true, cond_false] at h
  · obtain ⟨d, hd⟩ := under_some (ht hb)
    split at h
    · rename_i v hv
      refine ⟨v, fun w => ?_, h⟩
      have : (cs.toArray)[off]? = some v := by simpa using hv
      simp only [part, Sem.run_bind, run_isAgg hd, Result.andThen_ok, hb, this]
      rfl
    · exact h.elim
  · obtain ⟨he, hk⟩ := cond_some h
    obtain ⟨d, hd⟩ := under_some he
    refine ⟨_, fun w => ?_, hk⟩
    simp only [part, Sem.run_bind, run_isAgg hd, Result.andThen_ok, hb, if_true, run_sizeOf he, Sem.run_pure]
    congr 2
    apply Array.ext'
    simp [List.take_drop]

theorem fieldVC_sound {t : TypeId} {x : Value} {i : Nat} (h : fieldVC P t x i K) :
    ∃ v, (∀ w : World, (Instr.field t x i).run P w = .ok v w) ∧ K v := by
  unfold fieldVC at h
  split at h
  · rename_i hu
    split at h
    · rename_i fd hfd
      obtain ⟨he, h⟩ := cond_some h
      obtain ⟨v, h1, h2⟩ := partVC_sound (fun _ => he) h
      refine ⟨v, fun w => ?_, h2⟩
      simp only [Instr.field, Sem.run_bind, run_underlying hu, Result.andThen_ok, hfd, asAgg, Sem.run_pure]
      simpa using h1 w
    · exact h.elim
  · exact h.elim

theorem run_part_get {t : TypeId} {cs : List Value} {off : Nat} (ht : (P.underlying t).isSome = true) (h : getVC P t (fun j v => cs[off + j]? = some v) K) :
    ∃ v, (∀ w : World, (part t cs.toArray off).run P w = .ok v w) ∧ K v := by
  obtain ⟨d, hd⟩ := under_some ht
  rcases getVC_spec h with ⟨hb, vs, h1, h2, h3⟩ | ⟨hb, v, h1, h2⟩
  · refine ⟨_, fun w => ?_, h3⟩
    simp only [part, Sem.run_bind, run_isAgg hd, Result.andThen_ok, hb, if_true, run_sizeOf ht, Sem.run_pure]
    congr 2
    apply Array.ext'
    simp only [Array.toList_extract, List.extract_eq_take_drop, List.toList_toArray]
    rw [show off + P.cellsOf t - off = P.cellsOf t by omega]
    apply List.ext_getElem?
    intro j
    by_cases hj : j < vs.length
    · obtain ⟨v, hv⟩ : ∃ v, vs[j]? = some v := ⟨_, List.getElem?_eq_getElem hj⟩
      rw [hv, List.getElem?_take_of_lt (by omega), List.getElem?_drop, h2 j v hv]
    · rw [List.getElem?_eq_none (by simp; omega), List.getElem?_eq_none (by omega)]
  · refine ⟨v, fun w => ?_, h2⟩
    simp only [Nat.add_zero] at h1
    have : (cs.toArray)[off]? = some v := by simpa using h1
    simp only [part, Sem.run_bind, run_isAgg hd, Result.andThen_ok, hb, this]
    rfl

theorem index_string {t : TypeId} {k : IntKind} {i : Int} {s : ByteArray} (hu : P.underlying t = some .string) (h0 : 0 ≤ i) (h1 : i < (s.size : Int)) :
    (Instr.index t (.string s) (.int k i)).run P w = .ok (.int .u8 ((s.data.toList.getD i.toNat 0).toNat)) w := by
  have hlt : i.toNat < s.size := by omega
  have e : s[i.toNat]? = some (s.data.toList.getD i.toNat 0) := by
    have hl : i.toNat < s.data.toList.length := by simpa using hlt
    rw [getElem?_pos s i.toNat hlt]
    simp only [List.getD, List.getElem?_eq_getElem hl, Option.getD_some]
    rfl
  simp only [Instr.index, asIntOf, Sem.run_bind, Sem.run_pure, Result.andThen_ok, run_underlying hu, if_pos h0, e]

theorem idxVC_sound {t : TypeId} {x ix : Value} (h : idxVC P t x ix K) : ∃ v, (∀ w : World, (Instr.index t x ix).run P w = .ok v w) ∧ K v := by
  unfold idxVC at h
  split at h
  · split at h
    · rename_i hu
      obtain ⟨h0, h1, h⟩ := h
      obtain ⟨he, hk⟩ := cond_some h
      obtain ⟨v, g1, g2⟩ := run_part_get he hk
      refine ⟨v, fun w => ?_, g2⟩
      simp only [Instr.index, asIntOf, Sem.run_bind, Sem.run_pure, Result.andThen_ok, run_underlying hu, if_pos (And.intro h0 h1), run_sizeOf he]
      simpa using g1 w
    · rename_i s hu
      obtain ⟨h0, h1, hk⟩ := h
      refine ⟨_, fun w => ?_, hk⟩
      exact index_string hu h0 h1
    · exact h.elim
  · exact h.elim

theorem add_zero_opt (a : Option Addr) : a.map (·.add 0) = a := by cases a <;> simp [add_zero']

theorem bound_ok {k : IntKind} {i : Int} {y : Nat} {code : BoundsCode} (h0 : 0 ≤ i) (h1 : i ≤ (y : Int)) : (Instr.sliceBound (.int k i) y code).run P w = .ok i.toNat w := by
  simp only [Instr.sliceBound, asIntOf, Sem.run_bind, Sem.run_pure, Result.andThen_ok, if_pos (And.intro h0 h1)]

theorem bound_ok' {k : IntKind} {i j : Int} {code : BoundsCode} (hj : 0 ≤ j) (h0 : 0 ≤ i) (h1 : i ≤ j) : (Instr.sliceBound (.int k i) j.toNat code).run P w = .ok i.toNat w :=
  bound_ok h0 (by omega)

theorem sliceVC_sound {t : TypeId} {x : Value} {lo hi : Option Value} (h : sliceVC P t x lo hi K) : ∃ v, (∀ w : World, (Instr.sliceAt t x lo hi none).run P w = .ok v w) ∧ K v := by
  unfold sliceVC at h
  split at h
  · rename_i e a l c hu
    obtain ⟨he, h⟩ := cond_some h
    split at h
    · refine ⟨_, fun w => ?_, h⟩
      simp only [Instr.sliceAt, Instr.slice, Instr.sliceBounds, Sem.run_bind, Sem.run_pure, Result.andThen_ok, run_underlying hu, run_sizeOf he, Nat.sub_zero, Nat.zero_mul, add_zero_opt, ite_self]
    · obtain ⟨h0, h1, hk⟩ := h
      refine ⟨_, fun w => ?_, hk⟩
      simp only [Instr.sliceAt, Instr.slice, Instr.sliceBounds, Sem.run_bind, Sem.run_pure, Result.andThen_ok, run_underlying hu, run_sizeOf he, bound_ok h0 h1, Nat.sub_zero, Nat.zero_mul, add_zero_opt, ite_self]
    · obtain ⟨h0, h1, hk⟩ := h
      refine ⟨_, fun w => ?_, hk⟩
      simp only [Instr.sliceAt, Instr.slice, Instr.sliceBounds, Sem.run_bind, Sem.run_pure, Result.andThen_ok, run_underlying hu, run_sizeOf he, bound_ok h0 h1]
    · obtain ⟨h0, h1, h2, h3, hk⟩ := h
      have h3' := fun w => bound_ok' (P := P) (w := w) (k := .i64) (code := .sliceB) h0 h2 h3
      refine ⟨_, fun w => ?_, hk⟩
      simp only [Instr.sliceAt, Instr.slice, Instr.sliceBounds, Sem.run_bind, Sem.run_pure, Result.andThen_ok, run_underlying hu, run_sizeOf he, bound_ok h0 h1, Option.isSome_none, Bool.false_eq_true, if_false, h3']
    · exact h.elim
  · rename_i n e a hu
    obtain ⟨hc, h⟩ := cond_some h
    rw [Bool.and_eq_true] at hc
    obtain ⟨he, hn⟩ := hc
    have hn0 : n ≠ 0 := fun h0 => by subst h0; simp at hn
    split at h
    · refine ⟨_, fun w => ?_, h⟩
      simp only [Instr.sliceAt, Instr.sureAddr, Instr.sliceBounds, Sem.run_bind, Sem.run_pure, Result.andThen_ok, run_underlying hu, run_sizeOf he, Nat.sub_zero, Nat.zero_mul, if_neg hn0]
    · obtain ⟨h0, h1, hk⟩ := h
      refine ⟨_, fun w => ?_, hk⟩
      simp only [Instr.sliceAt, Instr.sureAddr, Instr.sliceBounds, Sem.run_bind, Sem.run_pure, Result.andThen_ok, run_underlying hu, run_sizeOf he, bound_ok h0 h1, Nat.sub_zero, Nat.zero_mul, if_neg hn0]
    · exact h.elim
  · rename_i s hu
    split at h
    · obtain ⟨h0, h1, hk⟩ := h
      refine ⟨_, fun w => ?_, hk⟩
      simp only [Instr.sliceAt, Instr.slice, Instr.sliceBounds, Sem.run_bind, Sem.run_pure, Result.andThen_ok, run_underlying hu, bound_ok h0 h1, Option.isSome_none, Bool.false_eq_true, if_false]
    · obtain ⟨h0, h1, hk⟩ := h
      refine ⟨_, fun w => ?_, hk⟩
      simp only [Instr.sliceAt, Instr.slice, Instr.sliceBounds, Sem.run_bind, Sem.run_pure, Result.andThen_ok, run_underlying hu, bound_ok h0 h1, Option.isSome_none, Bool.false_eq_true, if_false]
    · obtain ⟨h0, h1, h2, h3, hk⟩ := h
      refine ⟨_, fun w => ?_, hk⟩
      simp only [Instr.sliceAt, Instr.slice, Instr.sliceBounds, Sem.run_bind, Sem.run_pure, Result.andThen_ok, run_underlying hu, bound_ok h0 h1, Option.isSome_none, Bool.false_eq_true, if_false, bound_ok' (P := P) h0 h2 h3]
    · exact h.elim
  · exact h.elim

theorem slice3VC_sound {t : TypeId} {x mx : Value} {lo hi : Option Value} (h : slice3VC P t x lo hi mx K) : ∃ v, (∀ w : World, (Instr.sliceAt t x lo hi (some mx)).run P w = .ok v w) ∧ K v := by
  unfold slice3VC at h
  split at h
  · rename_i e a l c hu
    obtain ⟨he, h⟩ := cond_some h
    split at h
    · obtain ⟨h0, h1, h2, h3, h4, h5, hk⟩ := h
      have e1 := fun w => bound_ok (P := P) (w := w) (k := .i64) (code := .slice3Acap) h0 h1
      have e2 := fun w => bound_ok' (P := P) (w := w) (k := .i64) (code := .slice3B) h0 h2 h3
      have e3 := fun w => bound_ok' (P := P) (w := w) (k := .i64) (code := .slice3C) h2 h4 h5
      refine ⟨_, fun w => ?_, hk⟩
      simp only [Instr.sliceAt, Instr.slice, Instr.sliceBounds, Sem.run_bind, Sem.run_pure, Result.andThen_ok, run_underlying hu, run_sizeOf he, if_true, e1, e2, e3, Option.isSome_some]
    · exact h.elim
  · exact h.elim

theorem run_places : ∀ (fs : List Field), (fs.all fun fd => (P.underlying fd.type).isSome) = true →
    (fs.mapM fun f => do pure (f.offset, ← sizeOf f.type) : Sem (List (Nat × Nat))).run P w = .ok (fs.map fun fd => (fd.offset, P.cellsOf fd.type)) w
  | [], _ => rfl
  | fd :: fs, h => by
    simp only [List.all_cons, Bool.and_eq_true] at h
    have ih := run_places fs h.2
    simp only [List.mapM_cons, Sem.run_bind, run_sizeOf h.1, Result.andThen_ok, Sem.run_pure, ih, List.map_cons]

theorem oneCell_cells {v : Value} (h : v.oneCell' = true) : v.cells = #[v] := by
  cases v <;> first | rfl | (simp [Value.oneCell'] at h)

theorem withE_spec {isE : Nat → Bool} {K : Prop} : ∀ {l : List (Nat × Value)}, withE isE l K → (∀ p ∈ l, isE p.1 = true → p.2.oneCell' = true) ∧ K
  | [], h => ⟨by simp, h⟩
  | p :: l, h => by
    unfold withE at h
    cases hp : isE p.1 <;> simp only [hp, cond_true, cond_false] at h
    · obtain ⟨a, b⟩ := withE_spec h
      refine ⟨fun q hq hE => ?_, b⟩
      rcases List.mem_cons.1 hq with rfl | hq
      · rw [hp] at hE; cases hE
      · exact a q hq hE
    · obtain ⟨a, b⟩ := withE_spec h.2
      refine ⟨fun q hq hE => ?_, b⟩
      rcases List.mem_cons.1 hq with rfl | hq
      · exact h.1
      · exact a q hq hE

theorem fillE_eq {place : Nat → Option (Nat × Nat)} {isE : Nat → Bool} {r : Array Value} : ∀ {l : List (Nat × Value)} {cells : Array Value}, (∀ p ∈ l, isE p.1 = true → p.2.oneCell' = true) → fillE place isE cells l = some r → Instr.fill place cells l = some r
  | [], _, _, h => h
  | p :: l, cells, hE, h => by
    obtain ⟨i, v⟩ := p
    have hl : ∀ q ∈ l, isE q.1 = true → q.2.oneCell' = true := fun q hq => hE q (by simp [hq])
    unfold fillE at h
    unfold Instr.fill
    dsimp only at h
    cases hp : place i with
    | none => rw [hp] at h; cases h
    | some q =>
      obtain ⟨off, size⟩ := q
      rw [hp] at h
      dsimp only at h ⊢
      cases hi : isE i <;> simp only [hi, cond_true, cond_false] at h
      · split at h
        · cases h
        · rename_i hc
          rw [if_neg hc]
          exact fillE_eq hl h
      · cases hc : (Nat.beq size 1 && Nat.ble (off + 1) cells.size) <;> simp only [hc, cond_true, cond_false] at h
        · cases h
        · rw [Bool.and_eq_true] at hc
          have h1 := Nat.eq_of_beq_eq_true hc.1
          have h2 := Nat.le_of_ble_eq_true hc.2
          have hv := oneCell_cells (hE (i, v) (by simp) hi)
          rw [hv]
          have e1 : (#[v] : Array Value).size = 1 := rfl
          rw [if_neg (by simp [e1, h1]; omega)]
          exact fillE_eq hl h

theorem buildV_sound {t : TypeId} {ps : Array (Nat × Value)} {cs : List Value} (h : buildV P t ps.toList = some cs) (hE : ∀ p ∈ ps.toList, isEof P t p.1 = true → p.2.oneCell' = true) : (Instr.build t ps).run P w = .ok (.agg cs.toArray) w := by
  unfold buildV at h
  split at h
  · cases h
  · rename_i z hz
    obtain ⟨i, hi, hiz⟩ : ∃ i, P.info? t = some i ∧ i.zero = some z := by
      cases hi : P.info? t with
      | none => simp [hi] at hz
      | some i => exact ⟨i, rfl, by simpa [hi] using hz⟩
    have hzr : (zeroValue t).run P w = .ok z w := by simp [zeroValue, typeInfo, hi, hiz]
    split at h
    · rename_i fs hu
      cases hc : (fs.toList.all fun fd => (P.underlying fd.type).isSome) <;> simp only [hc, cond_true, cond_false] at h
      · cases h
      · have hp := run_places (P := P) (w := w) fs.toList hc
        have hp' : (fs.mapM fun f => do pure (f.offset, ← sizeOf f.type) : Sem (Array (Nat × Nat))).run P w = .ok (fs.map fun fd => (fd.offset, P.cellsOf fd.type)) w := by
          rw [Array.mapM_eq_mapM_toList, Sem.run_map, hp]
          simp only [Result.andThen_ok, Result.ok.injEq, and_true]
          apply Array.ext'
          simp
        cases hf : fillE ((fs.map fun fd => (fd.offset, P.cellsOf fd.type))[·]?) (isEof P t) z.cells ps.toList with
        | none => rw [hf] at h; cases h
        | some arr =>
          rw [hf, Option.map_some, Option.some.injEq] at h
          have hf := fillE_eq hE hf
          simp only [Instr.build, Sem.run_bind, hzr, Result.andThen_ok, run_underlying hu, hp', hf, Sem.run_pure, ← h]
    · rename_i n e hu
      cases hc : (P.underlying e).isSome <;> simp only [hc, cond_true, cond_false] at h
      · cases h
      · cases hf : fillE (fun i => some (i * P.cellsOf e, P.cellsOf e)) (isEof P t) z.cells ps.toList with
        | none => rw [hf] at h; cases h
        | some arr =>
          rw [hf, Option.map_some, Option.some.injEq] at h
          have hf := fillE_eq hE hf
          simp only [Instr.build, Sem.run_bind, hzr, Result.andThen_ok, run_underlying hu, run_sizeOf hc, hf, Sem.run_pure, ← h]
    · cases h

theorem lenVC_sound {t : TypeId} {ts : List TypeId} {x : Value} {xs : List Value} {ty : TypeId} (h : lenVC P t x K) : ∃ v, (∀ w : World, (Builtin.len_ (t :: ts).toArray ty (x :: xs).toArray).run P w = .ok v w) ∧ K v := by
  unfold lenVC at h
  split at h
  · rename_i hu; exact ⟨_, fun w => by simp [Builtin.len_, run_underlying hu, goInt], h⟩
  · rename_i hu; exact ⟨_, fun w => by simp [Builtin.len_, run_underlying hu, goInt], h⟩
  · rename_i hu; exact ⟨_, fun w => by simp [Builtin.len_, run_underlying hu, goInt], h⟩
  · exact h.elim

theorem extractVC_sound {x : Value} {i : Nat} (h : extractVC x i K) : ∃ v, (∀ w : World, (Instr.extract x i).run P w = .ok v w) ∧ K v := by
  unfold extractVC at h
  split at h
  · rename_i vs
    split at h
    · rename_i v hv
      refine ⟨v, fun w => ?_, h⟩
      have : vs[i]? = some v := by simpa using hv
      simp only [Instr.extract, this]
      rfl
    · exact h.elim
  · exact h.elim

end
end Go.Eng
