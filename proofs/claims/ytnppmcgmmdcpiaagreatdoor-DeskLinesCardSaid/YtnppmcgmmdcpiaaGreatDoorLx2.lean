
import Derived.Test.YtnppmcgmmdcpiaaGreatDoorLw
namespace Go.Proofs.YtnppmcgmmdcpiaaGreatDoor
open Go.Eng
set_option maxRecDepth 20000
structure ObS where
  r : Nat
  pa : Bool
  sb : SV
  eb : Ent
  l : List UInt8
def opV (r : Nat) : Bool → Value
  | true => .pointer (some ⟨r, 0, none⟩)
  | false => .pointer none
def obE (s : ObS) : Ent := ⟨some s.r, [opV s.r s.pa, slV s.sb], 2⟩
def obL (s : ObS) : List Ent := [obE s, shE s.r 54 2, s.eb]
theorem op_or (r : Nat) (pa : Bool) : opV r pa = .pointer none ∨ opV r pa = .pointer (some ⟨r, 0, none⟩) := by cases pa <;> simp [opV]
theorem ob_at {w : World} {s : ObS} {ro : Addr → Option Value} (hw : Holds w ⟨obL s, ro⟩) (hb : BufE s.sb s.eb s.l) : lBAt w s.r (opV s.r s.pa) (slV s.sb) (Lib.byteCells s.l) := by
  obtain ⟨arr, T, g1, g2, g3⟩ := (hw.ok (obE s) (by simp [obL])).row s.r rfl
  have h2 := (hw.ok (shE s.r 54 2) (by simp [obL])).shp ⟨s.r, 54, none⟩ rfl
  have hok := hw.ok s.eb (by simp [obL])
  have harr : arr = #[opV s.r s.pa, slV s.sb] := by
    apply Array.toList_inj.1
    refine (g3.eq_of_length ?_).symm
    rw [Array.length_toList, g2]; rfl
  subst harr
  have hT : T = 54 := by
    simp only [World.shape?, g1, shE] at h2
    simpa using h2
  subst hT
  refine ⟨g1, hb.row hok, fun hc => ?_⟩
  have nd := hw.nd
  rw [← hb.blk] at hc
  simp [obL, obE, shE, Ent.id, Ent.fz] at nd
  simp only [Ent.id, Ent.fz] at hc
  simp_all
theorem ob_turn {w w' : World} {s s' : ObS} {ro : Addr → Option Value} (hw : Holds w ⟨obL s, ro⟩) (hb : BufE s.sb s.eb s.l) (hr : s'.r = s.r) (hf : BFr w w' s.r (slV s.sb) (slV s'.sb))
    (h : lBAt w' s.r (opV s.r s'.pa) (slV s'.sb) (Lib.byteCells s'.l)) (hok : s'.eb.ok w') (hid : s'.eb.id = (slV s'.sb).ownBlock) :
    Holds w' ⟨obL s', ro⟩ ∧ Fr w w' ⟨obL s, ro⟩ ⟨obL s', ro⟩ := by
  obtain ⟨r', pa', sb', eb', l'⟩ := s'
  simp only at hr hf h hok hid
  subst hr
  have hsr : s.r < w.heap.size := ids_lt hw (e := obE s) (by simp [obL]) rfl
  have hebid := hb.blk
  have hT : w'.shape? s.r = some (54, 2) := by simp [World.shape?, h.hb]
  refine holds_turn hw hf.os hf.tape hf.output hf.size hf.shape (fun k hk hn => ?_) ?_ ?_ ?_
  · refine hf.block k hk (fun e => ?_) (fun e => ?_)
    · exact hn (obE s) (by simp [obL]) (by rw [e]; rfl)
    · exact hn s.eb (by simp [obL]) (by rw [hebid, e])
  · have hne : eb'.id ≠ some s.r := by rw [hid]; exact h.ne
    have e1 : (obE { r := s.r, pa := pa', sb := sb', eb := eb', l := l' }).id = some s.r := rfl
    have e2 : (shE s.r 54 2).id = none := rfl
    simp only [obL, List.filterMap_cons, List.filterMap_nil, e1, e2]
    cases hi : eb'.id with
    | none => simp
    | some g =>
      simp only [List.nodup_cons, List.mem_singleton, List.not_mem_nil, not_false_eq_true, List.nodup_nil, and_true]
      intro e
      exact hne (by rw [hi, e])
  · intro e he
    simp only [obL, List.mem_cons, List.not_mem_nil, or_false] at he
    rcases he with rfl | rfl | rfl
    · refine ⟨fun r hr => ?_, fun a bs hf => (by cases hf), fun a hf => (by cases hf)⟩
      cases hr
      exact ⟨_, _, h.hb, rfl, List.prefix_refl _⟩
    · refine ⟨fun r hr => (by cases hr), fun a bs hf => (by cases hf), fun a hf => ?_⟩
      cases hf
      exact hT
    · exact hok
  · intro e he k hk
    simp only [obL, List.mem_cons, List.not_mem_nil, or_false] at he
    rcases he with rfl | rfl | rfl
    · cases hk
      exact .inl ⟨obE s, by simp [obL], rfl⟩
    · cases hk
    · rw [hid] at hk
      rcases hf.row with e | ⟨g, e, hg⟩
      · exact .inl ⟨s.eb, by simp [obL], by rw [hebid, ← e, hk]⟩
      · rw [e] at hk; cases hk; exact .inr hg
theorem lws_c {s : ObS} {t : List UInt8} (hb : BufE s.sb s.eb s.l) (h0 : t ≠ []) (hlen : s.l.length + t.length ≤ 1000000000) {own : List Ent} {ro : Addr → Option Value} {post : Value → H → Prop} (A C : List Ent) (hown : own = A ++ (obL s ++ C))
    (hk : ∀ s', s'.r = s.r → s'.l = s.l ++ t → BufE s'.sb s'.eb s'.l → post (.tuple #[.int .i64 t.length, .nilIface]) ⟨A ++ (obL s' ++ C), ro⟩) :
    SemCall Tryz.prog 42 (List.toArray [.pointer (some (Addr.mk s.r 0 none)), .string (bs t)]) ⟨own, ro⟩ post := by
  subst hown
  refine SemCall.frame (p := fun v h => ∃ s', s'.r = s.r ∧ s'.l = s.l ++ t ∧ BufE s'.sb s'.eb s'.l ∧ v = .tuple #[.int .i64 t.length, .nilIface] ∧ h = ⟨obL s', ro⟩) (fun w hw => ?_) ?_
  · have := lws_in s.r _ _ _ (bs t) w (op_or s.r s.pa) (ob_at hw hb) (by rw [Lib.byteCells_length, bs_size]; exact hlen)
    refine this.mono ?_
    rintro e w' ⟨rfl, v', h1, h2⟩
    have e1 : Lib.byteCells s.l ++ Lib.strCells (bs t) = Lib.byteCells (s.l ++ t) := by rw [Lib.strCells_eq, Lib.byteCells_append, bs_data]
    rw [e1] at h1
    obtain ⟨sb', eb', rfl, hb', hok, hid⟩ := BufE.of (l := s.l ++ t) (by simp [h0]) h1.own
    have := ob_turn (s' := ⟨s.r, true, sb', eb', s.l ++ t⟩) hw hb rfl h2 h1 hok hid
    exact ⟨_, _, rfl, this.1, this.2, ⟨s.r, true, sb', eb', s.l ++ t⟩, rfl, rfl, hb', by rw [bs_size], rfl⟩
  · rintro v L' ro' ⟨s', hr, hl, hb', rfl, he⟩ _
    cases he
    exact hk s' hr hl hb'
theorem lwb_c {s : ObS} {c : UInt8} (hb : BufE s.sb s.eb s.l) (hlen : s.l.length + 1 ≤ 1000000000) {own : List Ent} {ro : Addr → Option Value} {post : Value → H → Prop} (A C : List Ent) (hown : own = A ++ (obL s ++ C))
    (hk : ∀ s', s'.r = s.r → s'.l = s.l ++ [c] → BufE s'.sb s'.eb s'.l → post .nilIface ⟨A ++ (obL s' ++ C), ro⟩) :
    SemCall Tryz.prog 45 (List.toArray [.pointer (some (Addr.mk s.r 0 none)), .int .u8 (c.toNat : Int)]) ⟨own, ro⟩ post := by
  subst hown
  refine SemCall.frame (p := fun v h => ∃ s', s'.r = s.r ∧ s'.l = s.l ++ [c] ∧ BufE s'.sb s'.eb s'.l ∧ v = .nilIface ∧ h = ⟨obL s', ro⟩) (fun w hw => ?_) ?_
  · refine (lwb_in s.r _ _ _ (c.toNat : Int) w (op_or s.r s.pa) (ob_at hw hb) (by rw [Lib.byteCells_length]; exact hlen)).mono ?_
    rintro e w' ⟨rfl, v', h1, h2⟩
    have e1 : Lib.byteCells s.l ++ [Value.int .u8 (c.toNat : Int)] = Lib.byteCells (s.l ++ [c]) := by rw [Lib.byteCells_append]; rfl
    rw [e1] at h1
    obtain ⟨sb', eb', rfl, hb', hok, hid⟩ := BufE.of (l := s.l ++ [c]) (by simp) h1.own
    have := ob_turn (s' := ⟨s.r, true, sb', eb', s.l ++ [c]⟩) hw hb rfl h2 h1 hok hid
    exact ⟨_, _, rfl, this.1, this.2, ⟨s.r, true, sb', eb', s.l ++ [c]⟩, rfl, rfl, hb', rfl, rfl⟩
  · rintro v L' ro' ⟨s', hr, hl, hb', rfl, he⟩ _
    cases he
    exact hk s' hr hl hb'
theorem lstr_c {s : ObS} (hb : BufE s.sb s.eb s.l) {own : List Ent} {ro : Addr → Option Value} {post : Value → H → Prop} (A C : List Ent) (hown : own = A ++ (obL s ++ C))
    (hk : post (.string (bs s.l)) ⟨own, ro⟩) : SemCall Tryz.prog 27 (List.toArray [.pointer (some (Addr.mk s.r 0 none))]) ⟨own, ro⟩ post := by
  subst hown
  refine SemCall.frame (p := fun v h => v = .string (bs s.l) ∧ h = ⟨obL s, ro⟩) (fun w hw => ?_) ?_
  · have fin : ∀ w', lBAt w' s.r (opV s.r s.pa) (slV s.sb) (Lib.byteCells s.l) → BFr w w' s.r (slV s.sb) (slV s.sb) → s.eb.ok w' → ∃ v h', Ending.returned (.string (bs s.l)) = .returned v ∧ Holds w' h' ∧ Fr w w' ⟨obL s, ro⟩ h' ∧ v = .string (bs s.l) ∧ h' = ⟨obL s, ro⟩ := by
      intro w' h1 h2 h3
      have := ob_turn (s' := s) hw hb rfl h2 h1 h3 hb.blk
      exact ⟨_, _, rfl, this.1, this.2, rfl, rfl⟩
    by_cases hl : s.l = []
    · have hnil : s.sb = ⟨none, 0, 0⟩ ∧ s.eb = ⟨none, [], 0⟩ := by
        rcases hb with ⟨h1, h2, _⟩ | ⟨g, cap, _, _, h0, _⟩
        · exact ⟨h1, h2⟩
        · exact absurd hl h0
      have h := ob_at hw hb
      rw [hl, hnil.1] at h
      refine (lstr_nil s.r _ w h).mono ?_
      rintro e w' ⟨rfl, h1, h2⟩
      rw [hl] at fin
      rw [hl]
      refine fin w' (by rw [hnil.1]; exact h1) (by rw [hnil.1]; exact h2) ?_
      rw [hnil.2]
      exact ⟨fun r hr => (by cases hr), fun a bs hf => (by cases hf), fun a hf => (by cases hf)⟩
    · refine (lstr_in s.r _ _ s.l w hl (ob_at hw hb)).mono ?_
      rintro e w' ⟨rfl, h1, h2⟩
      obtain ⟨sb', eb', he, hb', hok, hid⟩ := BufE.of hl h1.own
      refine fin w' h1 h2 ?_
      have e2 : eb' = s.eb := by
        rcases hb' with ⟨_, _, h0⟩ | ⟨g, cap, rfl, rfl, _⟩
        · exact absurd h0 hl
        · rcases hb with ⟨_, _, h0⟩ | ⟨g2, cap2, e3, e4, _⟩
          · exact absurd h0 hl
          · rw [e3] at he
            simp only [slV, Value.slice.injEq, Option.some.injEq, Addr.mk.injEq] at he
            rw [e4, he.1.1, he.2.2]
      rw [← e2]
      exact hok
  · rintro v L' ro' ⟨rfl, he⟩ _
    cases he
    exact hk
theorem lwb_ten {s : ObS} (hb : BufE s.sb s.eb s.l) (hlen : s.l.length + 1 ≤ 1000000000) {own : List Ent} {ro : Addr → Option Value} {post : Value → H → Prop} (A C : List Ent) (hown : own = A ++ (obL s ++ C))
    (hk : ∀ s', s'.r = s.r → s'.l = s.l ++ [10] → BufE s'.sb s'.eb s'.l → post .nilIface ⟨A ++ (obL s' ++ C), ro⟩) :
    SemCall Tryz.prog 45 (List.toArray [.pointer (some (Addr.mk s.r 0 none)), .int .u8 10]) ⟨own, ro⟩ post := by
  have e : (10 : Int) = (((10 : UInt8).toNat : Nat) : Int) := by decide
  rw [e]
  exact lwb_c hb hlen A C hown hk
end Go.Proofs.YtnppmcgmmdcpiaaGreatDoor
