import Derived.Test.YtnppmcgmmdcpiaaGreatDoorEngJ
import Derived.Test.YtnppmcgmmdcpiaaGreatDoorEngK
import Derived.Deep.SlicePairs
/- The engine, twelfth part: a slice of structs of ints that came in. -/
namespace Go.Eng
open Go.ChangeShapes Go.WideShapes Go.ChangeAt Go.RowKit Go.WideElems Go.Deep

def intFields (P : Program) (fs : Array Field) (n : Nat) : Bool := (List.range n).all fun i => match fs[i]? with
  | none => false
  | some f => f.offset == i && P.cellsOf f.type == 1 && (match P.underlying f.type with | some (.int .i64) => true | _ => false)

theorem intFields_at {P : Program} {fs : Array Field} {n i : Nat} (h : intFields P fs n = true) (hi : i < n) : ∃ f, fs[i]? = some f ∧ f.offset = i ∧ P.cellsOf f.type = 1 ∧ P.underlying f.type = some (.int .i64) := by
  have := List.all_eq_true.1 h i (List.mem_range.2 hi)
  split at this
  · cases this
  · rename_i f hf
    simp only [Bool.and_eq_true, beq_iff_eq] at this
    obtain ⟨⟨h1, h2⟩, h3⟩ := this
    refine ⟨f, hf, h1, h2, ?_⟩
    split at h3
    · assumption
    · cases h3

section
variable {K : Type} {enc : TypeId × Value → K} {P : Program} {W : World} {t e : TypeId} {v : Value} {d : DataW K} {ps : List MemPlace}

def intRow (n : Nat) (R : Nat → Int) : List Value := ints ((List.range n).map R)
theorem intRow_len (n : Nat) (R : Nat → Int) : (intRow n R).length = n := by simp [intRow]

theorem in_int_structs {n : Nat} {fs : Array Field} (hn : 0 < n) (ht : P.underlying t = some (.slice e)) (he : P.underlying e = some (.struct fs)) (hc : P.cellsOf e = n) (hfs : intFields P fs n = true)
    (hv : Value.okWide P W .any 0 t v) (h : DataW.Trod enc P W 0 (fun _ => true) true t v d ps) :
    ∃ (s : SV) (rows : List (Nat → Int)), v = .slice s.a s.len s.cap ∧ RdRows ⟨[], W.cell?⟩ n s (rows.flatMap (intRow n)) ∧ (∀ R ∈ rows, ∀ i, i < n → In64 (R i)) ∧ s.len ≤ s.cap ∧ s.cap ≤ maxLen := by
  obtain ⟨a0, len, cap, rfl⟩ := okWide_slice ht hv
  obtain ⟨fuel, hf⟩ := h
  have hcs0 : (Value.slice a0 len cap).cells.toList = [.slice a0 len cap] := rfl
  rcases open_slice ht hf with ⟨hcs, hx⟩ | ⟨a, len', cap', m, k, D, Pl, hcs, _, hl, hm, hmm, hx, hr⟩
  · rw [hcs0] at hcs
    injection hcs with h1 _
    injection h1 with h1 h2 h3
    subst h1; subst h2; subst h3
    exact ⟨⟨none, 0, 0⟩, [], rfl, ⟨by simp, fun _ => rfl, fun b hb => nomatch hb⟩, by simp, Nat.le_refl _, Nat.zero_le _⟩
  · rw [hcs0] at hcs
    injection hcs with h1 _
    injection h1 with h1 h2 h3
    subst h1; subst h2; subst h3
    rw [if_pos rfl] at hmm
    subst hmm
    have each : ∀ i, i < len → ∃ R : Nat → Int, ∀ j, j < n → W.cell? (a.add (i * n + j)) = some (.int .i64 (R j)) ∧ In64 (R j) := by
      intro i hi
      obtain ⟨cs', h1, h2⟩ := hr i (by omega)
      rw [hc] at h1
      obtain ⟨_, hlen, hcell⟩ := World.cells?_some h1
      obtain ⟨xs, k2, _, _, _, hxl, hf2⟩ := DataW.trod_struct he h2
      have one : ∀ j, j < n → ∃ z : Int, W.cell? (a.add (i * n + j)) = some (.int .i64 z) ∧ In64 z := by
        intro j hj
        obtain ⟨f, f1, f2, f3, f4⟩ := intFields_at hfs hj
        have g := hf2 j f f1
        rw [f2, f3] at g
        have hjx : j < xs.length := by
          rw [hxl]
          by_cases hjs : j < fs.size
          · exact hjs
          · rw [Array.getElem?_eq_none (by omega)] at f1; cases f1
        rw [List.getElem?_eq_getElem hjx] at g
        obtain ⟨z, z1, _, z3⟩ := DataW.trod_int f4 g
        have g2 := hcell j hj
        rw [add_add] at g2
        refine ⟨z, ?_, ?_⟩
        · rw [g2]
          have : ((cs'.drop j).take 1)[0]? = some (.int .i64 z) := by rw [z1]; rfl
          simpa using this
        · simp only [Lit.wf, Bool.and_eq_true, decide_eq_true_eq] at z3
          have e1 : IntKind.i64.min = -9223372036854775808 := by decide
          have e2 : IntKind.i64.max = 9223372036854775807 := by decide
          exact ⟨by omega, by omega⟩
      obtain ⟨R, hR⟩ := Deep.choose_lt one
      exact ⟨R, hR⟩
    obtain ⟨R, hR⟩ := Deep.choose_lt each
    refine ⟨⟨some a, len, m⟩, (List.range len).map R, rfl, ⟨?_, (fun h => nomatch h), ?_⟩, ?_, hl, hm⟩
    · rw [rows_length (intRow_len n)]; simp
    · intro b hb i v hv
      cases hb
      have hi : i < len * n := by
        have := (List.getElem?_eq_some_iff.1 hv).1
        rw [rows_length (intRow_len n)] at this
        simpa using this
      have hq : i / n < len := Nat.div_lt_of_lt_mul (by rw [Nat.mul_comm]; exact hi)
      have hj : i % n < n := Nat.mod_lt _ hn
      have hii : i = i / n * n + i % n := by rw [Nat.mul_comm]; exact (Nat.div_add_mod i n).symm
      rw [hii] at hv ⊢
      rw [rows_get (intRow_len n) _ _ _ hj] at hv
      simp only [List.getElem?_map, List.getElem?_range hq, Option.map_some, Option.bind_some] at hv
      simp only [intRow, ints_get, List.getElem?_map, List.getElem?_range hj, Option.map_some, Option.some.injEq] at hv
      subst hv
      exact rd_cell (hR _ hq _ hj).1
    · intro R0 hR0 i hi
      simp only [List.mem_map, List.mem_range] at hR0
      obtain ⟨r, hr1, rfl⟩ := hR0
      exact (hR r hr1 i hi).2
end
/-! ### rows that nobody writes again -/
theorem RdRows.frozen {sz : Nat} {e : Ent} {ro : Addr → Option Value} {s : SV} {xs : List Value} (ho : OwnsSl sz s e xs) : RdRows ⟨[], Go.Eng.frozen e ro⟩ sz s xs := by
  rcases ho with ⟨h1, h2, _, _, _, rfl⟩ | ⟨b, off, h1, h2, h3, _, _, _, h7⟩
  · exact ⟨by simp [h2], fun _ => h2, fun b hb => (by rw [h1] at hb; cases hb)⟩
  · refine ⟨by rw [← h7, List.length_drop, h3]; omega, fun ha => (by rw [h1] at ha; cases ha), fun b' hb i v hv => ?_⟩
    rw [h1] at hb
    cases hb
    rw [add_mk']
    refine rdr ?_
    show (if e.aid = some b ∧ (none : Option _) = none then e.cells[off + i]? else _) = some v
    rw [if_pos ⟨h2, rfl⟩, ← hv, ← h7, List.getElem?_drop]
theorem SemCall.frz {P : Program} {f : FuncId} {args : Array Value} {own : List Ent} {ro : Addr → Option Value} {post : Value → H → Prop} {sz : Nat} {s : SV} {xs : List Value} (A : List Ent) (e : Ent) (C : List Ent) (hown : own = A ++ e :: C) (ho : OwnsSl sz s e xs)
    (hk : ∀ ro', (∀ a v, ro a = some v → ro' a = some v) → RdRows ⟨[], ro'⟩ sz s xs → SemCall P f args ⟨A ++ C, ro'⟩ post) : SemCall P f args ⟨own, ro⟩ post := by
  subst hown
  refine SemCall.apart fun hro => ?_
  have hf : ∀ a v, ro a = some v → e.id ≠ some a.block := fun a v h => hro a v h e (by simp)
  exact SemCall.ghost (Gh.freeze A C ro e hf) (hk _ (frozen_mono hf) (RdRows.frozen ho))
theorem RdSl.rdi {h : H} {s : SV} {xs : List Int} (r : RdSl h s (ints xs)) {b : Addr} (hb : s.a = some b) {i : Nat} {x : Int} (hx : xs[i]? = some x) : H.rd h (Addr.add (Addr.add b (i * 1)) 0) (.int .i64 x) := by
  have := r.get hb (i := i) (v := .int .i64 x) (by rw [ints_get, hx]; rfl)
  simpa [Addr.add_zero'] using this
theorem RdRows.up {h h2 : H} {sz : Nat} {s : SV} {xs : List Value} (r : RdRows ⟨[], h.ro⟩ sz s xs) (hr : ∀ a v, h.ro a = some v → h2.ro a = some v) : RdRows h2 sz s xs := r.mono (by simp) hr
end Go.Eng
