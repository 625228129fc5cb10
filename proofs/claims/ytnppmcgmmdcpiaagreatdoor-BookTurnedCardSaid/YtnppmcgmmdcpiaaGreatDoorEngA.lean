import Derived.WalkKit
import Derived.StillTail
import Derived.Deep.LoopGhost
/- An engine for walks: a state of owned rows of cells and of cells that are only read; verification conditions of code by recursion; their soundness. Plain definitions and theorems. -/
namespace Go.Eng

/-! ### values by kind -/

structure SV where
  a : Option Addr
  len : Nat
  cap : Nat

inductive Kd where
  | int | u8 | bool | ptr | sl | err | str | any | agg | addr

def Kd.ty : Kd → Type
  | .int => Int
  | .u8 => Int
  | .bool => Bool
  | .ptr => Option Addr
  | .sl => SV
  | .err => Option (TypeId × Value)
  | .str => ByteArray
  | .any => Value
  | .agg => List Value
  | .addr => Addr

def errV : Option (TypeId × Value) → Value
  | none => .nilIface
  | some p => .iface p.1 p.2

def Kd.val : (k : Kd) → k.ty → Value
  | .int => fun n => .int .i64 n
  | .u8 => fun n => .int .u8 n
  | .bool => fun b => .bool b
  | .ptr => fun p => .pointer p
  | .sl => fun s => .slice s.a s.len s.cap
  | .err => fun o => errV o
  | .str => fun s => .string s
  | .any => fun v => v
  | .agg => fun l => .agg l.toArray
  | .addr => fun a => .pointer (some a)

def Kd.elim : (k : Kd) → Value → (k.ty → Prop) → Prop
  | .int => fun v K => match v with | .int .i64 n => K n | _ => False
  | .u8 => fun v K => match v with | .int .u8 n => K n | _ => False
  | .bool => fun v K => match v with | .bool b => K b | _ => False
  | .ptr => fun v K => match v with | .pointer p => K p | _ => False
  | .sl => fun v K => match v with | .slice a l c => K ⟨a, l, c⟩ | _ => False
  | .err => fun v K => ∃ o, v = errV o ∧ K o
  | .str => fun v K => match v with | .string s => K s | _ => False
  | .any => fun v K => K v
  | .agg => fun v K => match v with | .agg arr => K arr.toList | _ => False
  | .addr => fun v K => match v with | .pointer (some a) => K a | _ => False

theorem Kd.elim_spec (k : Kd) (v : Value) (K : k.ty → Prop) (h : k.elim v K) : ∃ x, v = k.val x ∧ K x := by
  cases k <;> simp only [Kd.elim] at h
  case err => exact h
  case any => exact ⟨v, rfl, h⟩
  all_goals (split at h <;> first | exact h.elim | exact ⟨_, rfl, h⟩ | skip)

/-! ### the state: owned rows, read-only cells -/

structure Ent where
  aid : Option Nat
  cells : List Value
  cap : Nat

structure H where
  own : List Ent
  ro : Addr → Option Value

/-- a row whose head is known and may be frozen (what a builder's String leaves): no id; first of its cells is a mark: the block's number and its type's -/
def Ent.fz (e : Ent) : Option (Addr × List Value) :=
  match e.aid with
  | some _ => none
  | none => match e.cells with
    | .pointer (some a) :: bs => some (a, bs)
    | _ => none

/-- a word on a block's shape (its type, how many cells); it owns nothing -/
def Ent.sh (e : Ent) : Option Addr :=
  match e.aid with
  | some _ => none
  | none => match e.cells with
    | .nilFunc :: .pointer (some a) :: _ => some a
    | _ => none

/-- the block that an entry owns -/
def Ent.id (e : Ent) : Option Nat :=
  match e.aid with
  | some r => some r
  | none => e.fz.map (·.1.block)

theorem Ent.blk_of_id {e : Ent} {r : Nat} (h : e.aid = some r) : e.id = some r := by unfold Ent.id; rw [h]
theorem Ent.fz_of_id {e : Ent} {r : Nat} (h : e.aid = some r) : e.fz = none := by unfold Ent.fz; rw [h]
theorem Ent.blk_of_fz {e : Ent} {a : Addr} {bs : List Value} (h : e.fz = some (a, bs)) : e.id = some a.block := by
  cases hi : e.aid with
  | some r => rw [Ent.fz_of_id hi] at h; cases h
  | none => unfold Ent.id; rw [hi]; simp only [h, Option.map_some]
theorem Ent.of_blk {e : Ent} {r : Nat} (h : e.id = some r) : e.aid = some r ∨ ∃ a bs, e.fz = some (a, bs) ∧ a.block = r := by
  unfold Ent.id at h
  split at h
  · rename_i hi; exact .inl (hi.trans h)
  · cases hf : e.fz with
    | none => rw [hf] at h; cases h
    | some x => rw [hf] at h; exact .inr ⟨x.1, x.2, rfl, Option.some.inj h⟩
@[simp] theorem Ent.blk_mk (r : Nat) (cs : List Value) (c : Nat) : (⟨some r, cs, c⟩ : Ent).id = some r := rfl
@[simp] theorem Ent.blk_nil (c : Nat) : (⟨none, [], c⟩ : Ent).id = none := rfl
@[simp] theorem Ent.fz_nil (c : Nat) : (⟨none, [], c⟩ : Ent).fz = none := rfl
@[simp] theorem Ent.fz_mk (r : Nat) (cs : List Value) (c : Nat) : (⟨some r, cs, c⟩ : Ent).fz = none := rfl
theorem Ent.blk_none {e : Ent} (h : e.aid = none) (hc : e.cells = []) : e.id = none := by unfold Ent.id Ent.fz; rw [h]; simp only [hc, Option.map_none]
theorem Ent.fz_none {e : Ent} (h : e.aid = none) (hc : e.cells = []) : e.fz = none := by unfold Ent.fz; rw [h]; simp only [hc]

theorem Ent.sh_of_id {e : Ent} {r : Nat} (h : e.aid = some r) : e.sh = none := by unfold Ent.sh; rw [h]
@[simp] theorem Ent.sh_nil (c : Nat) : (⟨none, [], c⟩ : Ent).sh = none := rfl
@[simp] theorem Ent.sh_mk (r : Nat) (cs : List Value) (c : Nat) : (⟨some r, cs, c⟩ : Ent).sh = none := rfl
theorem Ent.sh_none {e : Ent} (h : e.aid = none) (hc : e.cells = []) : e.sh = none := by unfold Ent.sh; rw [h]; simp only [hc]

structure Ent.ok (w : World) (e : Ent) : Prop where
  row : ∀ r, e.aid = some r → ∃ (arr : Array Value) (T : TypeId), w.heap[r]? = some (.cells arr T (0, 0)) ∧ arr.size = e.cap ∧ e.cells <+: arr.toList
  head : ∀ a bs, e.fz = some (a, bs) → ∃ (arr : Array Value) (fz : Nat × Nat), w.heap[a.block]? = some (.cells arr a.off fz) ∧ fz.2 ≤ bs.length ∧ arr.size = e.cap ∧ bs <+: arr.toList
  shp : ∀ a, e.sh = some a → w.shape? a.block = some (a.off, e.cap)

structure Holds (w : World) (h : H) : Prop where
  nd : (h.own.filterMap Ent.id).Nodup
  ok : ∀ e ∈ h.own, e.ok w
  ro : ∀ a v, h.ro a = some v → w.cell? a = some v
  ap : ∀ a v, h.ro a = some v → ∀ e ∈ h.own, e.id ≠ some a.block

structure Fr (w w' : World) (h h' : H) : Prop where
  os : w'.os = w.os
  tape : w'.tape = w.tape
  output : w'.output = w.output
  size : w.heap.size ≤ w'.heap.size
  shape : ∀ r, r < w.heap.size → w'.shape? r = w.shape? r
  keep : ∀ r, r < w.heap.size → (∀ e ∈ h.own, e.id ≠ some r) → w'.heap[r]? = w.heap[r]?
  ids : ∀ e ∈ h'.own, ∀ r, e.id = some r → (∃ e0 ∈ h.own, e0.id = some r) ∨ w.heap.size ≤ r
  ro : ∀ a v, h.ro a = some v → h'.ro a = some v
  roNew : ∀ a v, h'.ro a = some v → h.ro a = some v ∨ (∃ e ∈ h.own, e.id = some a.block) ∨ w.heap.size ≤ a.block

theorem Fr.refl (w : World) (h : H) : Fr w w h h :=
  ⟨rfl, rfl, rfl, Nat.le_refl _, fun _ _ => rfl, fun _ _ _ => rfl, fun e he _ hr => .inl ⟨e, he, hr⟩, fun _ _ h => h, fun _ _ h => .inl h⟩

theorem Fr.trans {w w1 w2 : World} {h h1 h2 : H} (A : Fr w w1 h h1) (B : Fr w1 w2 h1 h2) : Fr w w2 h h2 where
  os := B.os.trans A.os
  tape := B.tape.trans A.tape
  output := B.output.trans A.output
  size := Nat.le_trans A.size B.size
  shape := fun r hr => (B.shape r (Nat.lt_of_lt_of_le hr A.size)).trans (A.shape r hr)
  keep := fun r hr hn => by
    rw [B.keep r (Nat.lt_of_lt_of_le hr A.size) (fun e he hid => ?_), A.keep r hr hn]
    rcases A.ids e he r hid with ⟨e0, h0, h0'⟩ | hge
    · exact hn e0 h0 h0'
    · omega
  ids := fun e he r hr => by
    rcases B.ids e he r hr with ⟨e0, h0, h0'⟩ | hge
    · exact A.ids e0 h0 r h0'
    · exact .inr (Nat.le_trans A.size hge)
  ro := fun a v hv => B.ro a v (A.ro a v hv)
  roNew := fun a v hv => by
    rcases B.roNew a v hv with h' | ⟨e, he, hid⟩ | hge
    · exact A.roNew a v h'
    · exact .inr (A.ids e he _ hid)
    · exact .inr (.inr (Nat.le_trans A.size hge))

/-- the description of a state turned, the state as it is -/
structure Gh (h h2 : H) : Prop where
  holds : ∀ w, Holds w h → Holds w h2
  ids : ∀ e ∈ h2.own, ∀ r, e.id = some r → ∃ e0 ∈ h.own, e0.id = some r
  ro : ∀ a v, h.ro a = some v → h2.ro a = some v
  roNew : ∀ a v, h2.ro a = some v → h.ro a = some v ∨ ∃ e ∈ h.own, e.id = some a.block

theorem Gh.refl (h : H) : Gh h h := ⟨fun _ x => x, fun e he _ hr => ⟨e, he, hr⟩, fun _ _ x => x, fun _ _ x => .inl x⟩
theorem Gh.trans {h h1 h2 : H} (A : Gh h h1) (B : Gh h1 h2) : Gh h h2 where
  holds := fun w x => B.holds w (A.holds w x)
  ids := fun e he r hr => let ⟨e0, h0, h0'⟩ := B.ids e he r hr; A.ids e0 h0 r h0'
  ro := fun a v hv => B.ro a v (A.ro a v hv)
  roNew := fun a v hv => by
    rcases B.roNew a v hv with h' | ⟨e, he, hid⟩
    · exact A.roNew a v h'
    · exact .inr (A.ids e he _ hid)
theorem Gh.fr {h h2 : H} (A : Gh h h2) (w : World) : Fr w w h h2 :=
  ⟨rfl, rfl, rfl, Nat.le_refl _, fun _ _ => rfl, fun _ _ _ => rfl, fun e he r hr => .inl (A.ids e he r hr), A.ro, fun a v hv => (A.roNew a v hv).imp id .inl⟩

/-! ### calls -/

def SemCall (P : Program) (f : FuncId) (args : Array Value) (h : H) (post : Value → H → Prop) : Prop :=
  ∀ w, Holds w h → Calls P f args w fun e w' => ∃ v h', e = .returned v ∧ Holds w' h' ∧ Fr w w' h h' ∧ post v h'

def PureCall (P : Program) (f : FuncId) (args : Array Value) (v : Value) : Prop :=
  ∀ w, Calls P f args w fun e w' => e = .returned v ∧ w' = w

theorem SemCall.mono {P : Program} {f : FuncId} {args : Array Value} {h : H} {p q : Value → H → Prop} (H1 : SemCall P f args h p) (hq : ∀ v h', p v h' → q v h') : SemCall P f args h q :=
  fun w hw => (H1 w hw).mono fun _ _ ⟨v, h', a, b, c, d⟩ => ⟨v, h', a, b, c, hq _ _ d⟩

theorem PureCall.sem {P : Program} {f : FuncId} {args : Array Value} {v : Value} {h : H} {q : Value → H → Prop} (H1 : PureCall P f args v) (hq : q v h) : SemCall P f args h q :=
  fun w hw => (H1 w).mono fun _ _ ⟨a, b⟩ => ⟨v, h, a, b ▸ hw, b ▸ Fr.refl w h, hq⟩

theorem ids_lt {w : World} {h : H} (hw : Holds w h) {e : Ent} (he : e ∈ h.own) {r : Nat} (hr : e.id = some r) : r < w.heap.size := by
  rcases Ent.of_blk hr with hi | ⟨a, bs, hf, rfl⟩
  · obtain ⟨arr, T, h1, _⟩ := (hw.ok e he).row r hi
    exact (Array.getElem?_eq_some_iff.1 h1).1
  · obtain ⟨arr, T, h1, _⟩ := (hw.ok e he).head a bs hf
    exact (Array.getElem?_eq_some_iff.1 h1).1

theorem shape_lt {w : World} {r : Nat} {x : TypeId × Nat} (h : w.shape? r = some x) : r < w.heap.size := by
  rcases Nat.lt_or_ge r w.heap.size with h' | h'
  · exact h'
  · simp [World.shape?, Array.getElem?_eq_none h'] at h
theorem shape_of_heap {w w' : World} {r : Nat} (h : w'.heap[r]? = w.heap[r]?) : w'.shape? r = w.shape? r := by simp [World.shape?, h]

theorem Ent.ok_of_block {w w' : World} {e : Ent} (h : ∀ r, e.id = some r → w'.heap[r]? = w.heap[r]?) (hs : ∀ r, r < w.heap.size → w'.shape? r = w.shape? r) (ho : e.ok w) : e.ok w' := by
  refine ⟨fun r hr => ?_, fun a bs hf => ?_, fun a ha => by rw [hs _ (shape_lt (ho.shp a ha))]; exact ho.shp a ha⟩
  · obtain ⟨arr, T, h1, h2, h3⟩ := ho.row r hr
    exact ⟨arr, T, by rw [h r (Ent.blk_of_id hr)]; exact h1, h2, h3⟩
  · obtain ⟨arr, T, h1, h2, h3⟩ := ho.head a bs hf
    exact ⟨arr, T, by rw [h _ (Ent.blk_of_fz hf)]; exact h1, h2, h3⟩

/-- THE FRAME: what a call does to a part, the whole around it. -/
theorem SemCall.frame {P : Program} {f : FuncId} {args : Array Value} {A L C : List Ent} {ro : Addr → Option Value} {p q : Value → H → Prop}
    (H1 : SemCall P f args ⟨L, ro⟩ p) (hq : ∀ v L' ro', p v ⟨L', ro'⟩ → (∀ a v, ro a = some v → ro' a = some v) → q v ⟨A ++ (L' ++ C), ro'⟩) : SemCall P f args ⟨A ++ (L ++ C), ro⟩ q := by
  intro w hw
  have hnd := hw.nd
  simp only [List.filterMap_append, List.nodup_append, List.mem_append, List.mem_filterMap] at hnd
  obtain ⟨ndA, ⟨ndL, ndC, dLC⟩, dA⟩ := hnd
  have hL : Holds w ⟨L, ro⟩ := ⟨ndL, fun e he => hw.ok e (by simp [he]), hw.ro, fun a v hv e he => hw.ap a v hv e (by simp [he])⟩
  refine (H1 w hL).mono fun e w' ⟨v, h', he, hh, hf, hp⟩ => ?_
  obtain ⟨L', ro'⟩ := h'
  have old : ∀ e0 ∈ A ++ (L ++ C), ∀ r, e0.id = some r → r < w.heap.size := fun e0 h0 r hr => ids_lt hw h0 hr
  have keepA : ∀ e0, e0 ∈ A ∨ e0 ∈ C → ∀ r, e0.id = some r → w'.heap[r]? = w.heap[r]? := fun e0 h0 r hr => by
    refine hf.keep r (old e0 (by rcases h0 with h0 | h0 <;> simp [h0]) r hr) (fun e1 h1 hr1 => ?_)
    rcases h0 with h0 | h0
    · exact dA r ⟨e0, h0, hr⟩ r (.inl ⟨e1, h1, hr1⟩) rfl
    · exact dLC r ⟨e1, h1, hr1⟩ r ⟨e0, h0, hr⟩ rfl
  have hro : ∀ a v, ro' a = some v → ∀ e0, e0 ∈ A ∨ e0 ∈ C → e0.id ≠ some a.block := fun a u hu e0 h0 hid => by
    have hlt := old e0 (by rcases h0 with h0 | h0 <;> simp [h0]) _ hid
    rcases hf.roNew a u hu with h1 | ⟨e1, h1, h1'⟩ | h1
    · exact hw.ap a u h1 e0 (by rcases h0 with h0 | h0 <;> simp [h0]) hid
    · rcases h0 with h0 | h0
      · exact dA _ ⟨e0, h0, hid⟩ _ (.inl ⟨e1, h1, h1'⟩) rfl
      · exact dLC _ ⟨e1, h1, h1'⟩ _ ⟨e0, h0, hid⟩ rfl
    · omega
  have dis : ∀ e1 ∈ L', ∀ r, e1.id = some r → ∀ e0, e0 ∈ A ∨ e0 ∈ C → e0.id ≠ some r := fun e1 h1 r hr e0 h0 hid => by
    rcases hf.ids e1 h1 r hr with ⟨e2, h2, h2'⟩ | hge
    · rcases h0 with h0 | h0
      · exact dA _ ⟨e0, h0, hid⟩ _ (.inl ⟨e2, h2, h2'⟩) rfl
      · exact dLC _ ⟨e2, h2, h2'⟩ _ ⟨e0, h0, hid⟩ rfl
    · have := old e0 (by rcases h0 with h0 | h0 <;> simp [h0]) _ hid
      omega
  refine ⟨v, ⟨A ++ (L' ++ C), ro'⟩, he, ⟨?_, ?_, hh.ro, ?_⟩, ⟨hf.os, hf.tape, hf.output, hf.size, hf.shape, ?_, ?_, hf.ro, ?_⟩, hq v L' ro' hp hf.ro⟩
  · simp only [List.filterMap_append, List.nodup_append, List.mem_append, List.mem_filterMap]
    refine ⟨ndA, ⟨hh.nd, ndC, ?_⟩, ?_⟩
    · rintro r ⟨e1, h1, hr⟩ r' ⟨e0, h0, hr0⟩ rfl
      exact dis e1 h1 r hr e0 (.inr h0) hr0
    · rintro r ⟨e0, h0, hr0⟩ r' hrr rfl
      rcases hrr with ⟨e1, h1, hr1⟩ | ⟨e1, h1, hr1⟩
      · exact dis e1 h1 r hr1 e0 (.inl h0) hr0
      · exact dA r ⟨e0, h0, hr0⟩ r (.inr ⟨e1, h1, hr1⟩) rfl
  · intro e0 h0
    simp only [List.mem_append] at h0
    rcases h0 with h0 | h0 | h0
    · exact Ent.ok_of_block (keepA e0 (.inl h0)) hf.shape (hw.ok e0 (by simp [h0]))
    · exact hh.ok e0 h0
    · exact Ent.ok_of_block (keepA e0 (.inr h0)) hf.shape (hw.ok e0 (by simp [h0]))
  · intro a u hu e0 h0
    simp only [List.mem_append] at h0
    rcases h0 with h0 | h0 | h0
    · exact hro a u hu e0 (.inl h0)
    · exact hh.ap a u hu e0 h0
    · exact hro a u hu e0 (.inr h0)
  · intro r hr hn
    exact hf.keep r hr (fun e0 h0 => hn e0 (by simp [h0]))
  · intro e0 h0 r hr
    simp only [List.mem_append] at h0
    rcases h0 with h0 | h0 | h0
    · exact .inl ⟨e0, by simp [h0], hr⟩
    · rcases hf.ids e0 h0 r hr with ⟨e1, h1, h1'⟩ | hge
      · exact .inl ⟨e1, by simp [h1], h1'⟩
      · exact .inr hge
    · exact .inl ⟨e0, by simp [h0], hr⟩
  · intro a u hu
    rcases hf.roNew a u hu with h1 | ⟨e1, h1, h1'⟩ | h1
    · exact .inl h1
    · exact .inr (.inl ⟨e1, by simp [h1], h1'⟩)
    · exact .inr (.inr h1)

theorem SemCall.ghost {P : Program} {f : FuncId} {args : Array Value} {h h2 : H} {q : Value → H → Prop} (g : Gh h h2) (H1 : SemCall P f args h2 q) : SemCall P f args h q :=
  fun w hw => (H1 w (g.holds w hw)).mono fun _ _ ⟨v, h', a, b, c, d⟩ => ⟨v, h', a, b, (g.fr w).trans c, d⟩

end Go.Eng
