import Derived.Test.YtnppmcgmmdcpiaaDoorBx
namespace Go.Proofs.YtnppmcgmmdcpiaaDoor
open Go.Eng
set_option maxRecDepth 20000
/-! ### what the builder's calls do, as rows -/
theorem bo_turn {w w' : World} {s s' : BkS} {ro : Addr → Option Value} (hw : Holds w ⟨boL s, ro⟩) (hb : BufE s.sb s.eb s.l) (hr : s'.r = s.r) (hf : BFr w w' s.r (slV s.sb) (slV s'.sb))
    (h : BAt w' s.r (slV s'.sf) (slV s'.sc) (slV s'.sh) (paV s.r s'.pa) (slV s'.sb) (.int .i64 s'.n) (Lib.byteCells s'.l)) (hok : s'.eb.ok w') (hid : s'.eb.id = (slV s'.sb).ownBlock) :
    Holds w' ⟨boL s', ro⟩ ∧ Fr w w' ⟨boL s, ro⟩ ⟨boL s', ro⟩ := by
  obtain ⟨r', sf', sc', sh', pa', sb', n', eb', l'⟩ := s'
  simp only at hr hf h hok hid
  subst hr
  have hsr : s.r < w.heap.size := ids_lt hw (e := boE s) (by simp [boL]) rfl
  have hebid := hb.blk
  have hT : w'.shape? s.r = some (52, 6) := by simp [World.shape?, h.hb]
  refine holds_turn hw hf.os hf.tape hf.output hf.size hf.shape (fun k hk hn => ?_) ?_ ?_ ?_
  · refine hf.block k hk (fun e => ?_) (fun e => ?_)
    · exact hn (boE s) (by simp [boL]) (by rw [e]; rfl)
    · exact hn s.eb (by simp [boL]) (by rw [hebid, e])
  · have hne : eb'.id ≠ some s.r := by rw [hid]; exact h.ne
    have e1 : (boE { r := s.r, sf := sf', sc := sc', sh := sh', pa := pa', sb := sb', n := n', eb := eb', l := l' }).id = some s.r := rfl
    have e2 : (shE s.r 52 6).id = none := rfl
    simp only [boL, List.filterMap_cons, List.filterMap_nil, e1, e2]
    cases hi : eb'.id with
    | none => simp
    | some g =>
      simp only [List.nodup_cons, List.mem_singleton, List.not_mem_nil, not_false_eq_true, List.nodup_nil, and_true]
      intro e
      exact hne (by rw [hi, e])
  · intro e he
    simp only [boL, List.mem_cons, List.not_mem_nil, or_false] at he
    rcases he with rfl | rfl | rfl
    · refine ⟨fun r hr => ?_, fun a bs hf => (by cases hf), fun a hf => (by cases hf)⟩
      cases hr
      exact ⟨_, _, h.hb, rfl, List.prefix_refl _⟩
    · refine ⟨fun r hr => (by cases hr), fun a bs hf => (by cases hf), fun a hf => ?_⟩
      cases hf
      exact hT
    · exact hok
  · intro e he k hk
    simp only [boL, List.mem_cons, List.not_mem_nil, or_false] at he
    rcases he with rfl | rfl | rfl
    · cases hk
      exact .inl ⟨boE s, by simp [boL], rfl⟩
    · cases hk
    · rw [hid] at hk
      rcases hf.row with e | ⟨g, e, hg⟩
      · exact .inl ⟨s.eb, by simp [boL], by rw [hebid, ← e, hk]⟩
      · rw [e] at hk; cases hk; exact .inr hg

theorem pa_or (r : Nat) (pa : Bool) : paV r pa = .pointer none ∨ paV r pa = .pointer (some ⟨r, 3, none⟩) := by cases pa <;> simp [paV]

theorem ws_c {s : BkS} {t : ByteArray} (hb : BufE s.sb s.eb s.l) (h0 : t.size ≠ 0) (hlen : s.l.length + t.size ≤ 1000000000) {own : List Ent} {ro : Addr → Option Value} {post : Value → H → Prop} (A C : List Ent) (hown : own = A ++ (boL s ++ C))
    (hk : ∀ sb' eb', BufE sb' eb' (s.l ++ t.data.toList) → post (.tuple #[.int .i64 t.size, .nilIface]) ⟨A ++ (boL { s with pa := true, sb := sb', eb := eb', l := s.l ++ t.data.toList } ++ C), ro⟩) :
    SemCall Tryd.prog 40 (List.toArray [.pointer (some (Addr.mk s.r 3 none)), .string t]) ⟨own, ro⟩ post := by
  subst hown
  refine SemCall.frame (p := fun v h => ∃ sb' eb', BufE sb' eb' (s.l ++ t.data.toList) ∧ v = .tuple #[.int .i64 t.size, .nilIface] ∧ h = ⟨boL { s with pa := true, sb := sb', eb := eb', l := s.l ++ t.data.toList }, ro⟩) (fun w hw => ?_) ?_
  · refine (ws_in s.r _ _ _ _ _ _ _ t w (pa_or s.r s.pa) (bo_at hw hb) (by rw [Lib.byteCells_length]; exact hlen)).mono ?_
    rintro e w' ⟨rfl, v', h1, h2⟩
    have e1 : Lib.byteCells s.l ++ Lib.strCells t = Lib.byteCells (s.l ++ t.data.toList) := by rw [Lib.strCells_eq, Lib.byteCells_append]
    rw [e1] at h1
    have hne : s.l ++ t.data.toList ≠ [] := by
      intro hc
      have := congrArg List.length hc
      rw [List.length_append, ← Lib.size_eq, List.length_nil] at this
      omega
    obtain ⟨sb', eb', rfl, hb', hok, hid⟩ := BufE.of hne h1.own
    have := bo_turn (s' := { s with pa := true, sb := sb', eb := eb', l := s.l ++ t.data.toList }) hw hb rfl h2 h1 hok hid
    exact ⟨_, _, rfl, this.1, this.2, sb', eb', hb', rfl, rfl⟩
  · rintro v L' ro' ⟨sb', eb', hb', rfl, he⟩ _
    cases he
    exact hk sb' eb' hb'

theorem str_c {s : BkS} (hb : BufE s.sb s.eb s.l) {own : List Ent} {ro : Addr → Option Value} {post : Value → H → Prop} (A C : List Ent) (hown : own = A ++ (boL s ++ C))
    (hk : post (.string ⟨s.l.toArray⟩) ⟨own, ro⟩) : SemCall Tryd.prog 30 (List.toArray [.pointer (some (Addr.mk s.r 3 none))]) ⟨own, ro⟩ post := by
  subst hown
  refine SemCall.frame (p := fun v h => v = .string ⟨s.l.toArray⟩ ∧ h = ⟨boL s, ro⟩) (fun w hw => ?_) ?_
  · have fin : ∀ w', BAt w' s.r (slV s.sf) (slV s.sc) (slV s.sh) (paV s.r s.pa) (slV s.sb) (.int .i64 s.n) (Lib.byteCells s.l) → BFr w w' s.r (slV s.sb) (slV s.sb) → s.eb.ok w' → ∃ v h', Ending.returned (.string ⟨s.l.toArray⟩) = .returned v ∧ Holds w' h' ∧ Fr w w' ⟨boL s, ro⟩ h' ∧ v = .string ⟨s.l.toArray⟩ ∧ h' = ⟨boL s, ro⟩ := by
      intro w' h1 h2 h3
      have := bo_turn (s' := s) hw hb rfl h2 h1 h3 hb.blk
      exact ⟨_, _, rfl, this.1, this.2, rfl, rfl⟩
    by_cases hl : s.l = []
    · have hnil : s.sb = ⟨none, 0, 0⟩ ∧ s.eb = ⟨none, [], 0⟩ := by
        rcases hb with ⟨h1, h2, _⟩ | ⟨g, cap, _, _, h0, _⟩
        · exact ⟨h1, h2⟩
        · exact absurd hl h0
      have h := bo_at hw hb
      rw [hl, hnil.1] at h
      refine (str_nil s.r _ _ _ _ _ w h).mono ?_
      rintro e w' ⟨rfl, h1, h2⟩
      rw [hl] at fin
      rw [hl]
      refine fin w' (by rw [hnil.1]; exact h1) (by rw [hnil.1]; exact h2) ?_
      rw [hnil.2]
      exact ⟨fun r hr => (by cases hr), fun a bs hf => (by cases hf), fun a hf => (by cases hf)⟩
    · refine (str_in s.r _ _ _ _ _ _ s.l w hl (bo_at hw hb)).mono ?_
      rintro e w' ⟨rfl, h1, h2⟩
      obtain ⟨sb', eb', he, hb', hok, hid⟩ := BufE.of hl h1.own
      refine fin w' h1 h2 ?_
      have e2 : eb' = s.eb := by
        rcases hb' with ⟨_, _, h0⟩ | ⟨g, cap, rfl, rfl, _⟩
        · exact absurd h0 hl
        · rcases hb with ⟨_, _, h0⟩ | ⟨g2, cap2, e3, e4, _⟩
          · exact absurd h0 hl
          · rw [e3] at he
            simp only [slV, Value.slice.injEq, Option.some.injEq, Addr.mk.injEq] at he
            rw [e4, he.1.1, he.2.2]
      rw [← e2]
      exact hok
  · rintro v L' ro' ⟨rfl, he⟩ _
    cases he
    exact hk

theorem sum_c {t : ByteArray} (ht : t.size ≤ 1000000) {h : H} {post : Value → H → Prop} (hk : post (.int .i64 (sumB t.data.toList)) h) : SemCall Tryd.prog 41 (List.toArray [.string t]) h post := by
  intro w hw
  refine (sum_in t ht w).mono ?_
  rintro e w' ⟨rfl, hb⟩
  have := holds_below hw hb
  exact ⟨_, _, rfl, this.1, this.2, hk⟩

/-- the powers of ten, as the library lays them -/
def HasTab (ro : Addr → Option Value) : Prop := ∀ i, i < 20 → ro ⟨1, i, none⟩ = some (.int .u64 ((10 ^ i : Nat) : Int))
theorem HasTab.up {ro ro' : Addr → Option Value} (h : HasTab ro) (m : ∀ a v, ro a = some v → ro' a = some v) : HasTab ro' := fun i hi => m _ _ (h i hi)
theorem tab_is {w : World} {own : List Ent} {ro : Addr → Option Value} {T : Nat} (hw : Holds w ⟨own, ro⟩) (ht : shE 1 T 20 ∈ own) (hr : HasTab ro) : Lib.TabIs Tryd.prog w "internal/strconv.uint64pow10" .u64 Lib.pow10Tab := by
  have h2 := (hw.ok _ ht).shp ⟨1, T, none⟩ rfl
  have hg : Tryd.prog.globalNamed "internal/strconv.uint64pow10" = some 1 := by kernel_rfl
  unfold Lib.TabIs World.var?
  rw [hg]
  simp only [Option.bind_some]
  simp only [World.shape?] at h2
  split at h2
  · rename_i arr e fz ha
    simp only [shE, Option.some.injEq, Prod.mk.injEq] at h2
    rw [ha]
    simp only [Option.some.injEq]
    apply Array.ext
    · rw [h2.2]; simp [Lib.pow10Tab]
    · intro i h1 h3
      have hi : i < 20 := by rw [h2.2] at h1; exact h1
      have := hw.ro _ _ (hr i hi)
      simp only [World.cell?, ha] at this
      simp only [Option.isSome_none, Bool.false_eq_true, if_false, Array.getElem?_eq_getElem h1, Option.some.injEq] at this
      rw [this]
      simp [Lib.pow10Tab]
  · cases h2
open Go.RowKit in
theorem below_grow {w w' : World} {k : Nat} {os : Array Obj} (h : w' = Go.Sort.grow (w.drewN k) os) : Below w.heap.size w w' := by
  subst h
  exact ⟨rfl, rfl, rfl, by simp [Go.Sort.grow], fun j hj => by
    show (w.heap ++ os)[j]? = w.heap[j]?
    rw [Array.getElem?_append_left hj]⟩
theorem itoa_c {n : Int} (h0 : -9223372036854775808 ≤ n) (h1 : n ≤ 9223372036854775807) {own : List Ent} {ro : Addr → Option Value} {T : Nat} {post : Value → H → Prop} (ht : shE 1 T 20 ∈ own) (hr : HasTab ro)
    (hk : post (.string ⟨(Lib.itoa n).toArray⟩) ⟨own, ro⟩) : SemCall Tryd.prog 39 (List.toArray [.int .i64 n]) ⟨own, ro⟩ post := by
  intro w hw
  refine (itoa_in n h0 h1 w (tab_is hw ht hr)).mono ?_
  rintro e w' ⟨rfl, k, os, he⟩
  have := holds_below hw (below_grow he)
  exact ⟨_, _, rfl, this.1, this.2, hk⟩
end Go.Proofs.YtnppmcgmmdcpiaaDoor
