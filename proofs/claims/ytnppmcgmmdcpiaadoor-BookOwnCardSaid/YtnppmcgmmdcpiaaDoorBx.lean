import Derived.Test.YtnppmcgmmdcpiaaDoorBB
import Derived.Test.YtnppmcgmmdcpiaaDoorBw
import Derived.Test.YtnppmcgmmdcpiaaDoorBs
import Derived.Test.YtnppmcgmmdcpiaaDoorIt
namespace Go.Proofs.YtnppmcgmmdcpiaaDoor
open Go.Eng
set_option maxRecDepth 20000
/-! ### a book's builder as rows -/
open Go.RowKit in
theorem holds_turn {w w' : World} {L L' : List Ent} {ro : Addr → Option Value} (hw : Holds w ⟨L, ro⟩) (hos : w'.os = w.os) (htape : w'.tape = w.tape) (hout : w'.output = w.output) (hsize : w.heap.size ≤ w'.heap.size)
    (hshp : ∀ r, r < w.heap.size → w'.shape? r = w.shape? r) (hk : ∀ r, r < w.heap.size → (∀ e ∈ L, e.id ≠ some r) → w'.heap[r]? = w.heap[r]?) (hnd : (L'.filterMap Ent.id).Nodup) (hok : ∀ e ∈ L', e.ok w')
    (hid : ∀ e ∈ L', ∀ r, e.id = some r → (∃ e0 ∈ L, e0.id = some r) ∨ w.heap.size ≤ r) : Holds w' ⟨L', ro⟩ ∧ Fr w w' ⟨L, ro⟩ ⟨L', ro⟩ := by
  refine ⟨⟨hnd, hok, fun a v hv => ?_, fun a v hv e he hb => ?_⟩, ⟨hos, htape, hout, hsize, hshp, hk, hid, fun _ _ h => h, fun _ _ h => .inl h⟩⟩
  · have h1 := hw.ro a v hv
    exact (World.cell?_of_block (hk _ (cell_block_lt h1) (fun e he => hw.ap a v hv e he))).trans h1
  · rcases hid e he _ hb with ⟨e0, h0, h1⟩ | h1
    · exact hw.ap a v hv e0 h0 h1
    · have := cell_block_lt (hw.ro a v hv); omega
open Go.RowKit in
theorem holds_below {w w' : World} {h : H} (hw : Holds w h) (hb : Below w.heap.size w w') : Holds w' h ∧ Fr w w' h h := by
  obtain ⟨own, ro⟩ := h
  have hshp : ∀ r, r < w.heap.size → w'.shape? r = w.shape? r := fun r hr => shape_of_heap (hb.block r hr)
  refine holds_turn hw hb.os hb.tape hb.output hb.size hshp (fun r hr _ => hb.block r hr) hw.nd (fun e he => Ent.ok_of_block (fun r hr => hb.block r (ids_lt hw he hr)) hshp (hw.ok e he)) (fun e he r hr => .inl ⟨e, he, hr⟩)

def slV (s : SV) : Value := .slice s.a s.len s.cap
/-- a word on a block's shape -/
def shE (r T n : Nat) : Ent := ⟨none, [.nilFunc, .pointer (some ⟨r, T, none⟩)], n⟩
/-- a builder's buffer: nothing yet, or a row of bytes whose head may be frozen -/
def BufE (sb : SV) (e : Ent) (l : List UInt8) : Prop :=
  (sb = ⟨none, 0, 0⟩ ∧ e = ⟨none, [], 0⟩ ∧ l = []) ∨ ∃ g cap, sb = ⟨some ⟨g, 0, none⟩, l.length, cap⟩ ∧ e = ⟨none, .pointer (some ⟨g, 5, none⟩) :: Lib.byteCells l, cap⟩ ∧ l ≠ [] ∧ l.length ≤ cap ∧ cap ≤ maxLen
theorem BufE.nil : BufE ⟨none, 0, 0⟩ ⟨none, [], 0⟩ [] := .inl ⟨rfl, rfl, rfl⟩
theorem BufE.row {sb : SV} {e : Ent} {l : List UInt8} (h : BufE sb e l) {w : World} (hok : e.ok w) : w.ownsRowF 0 5 1 (slV sb) (Lib.byteCells l).length (Lib.byteCells l) := by
  refine ⟨by simp, ?_⟩
  rcases h with ⟨rfl, rfl, rfl⟩ | ⟨g, cap, rfl, rfl, h0, h1, h2⟩
  · exact .inl ⟨rfl, rfl⟩
  · obtain ⟨arr, fz, g1, g2, g3, g4⟩ := hok.head ⟨g, 5, none⟩ _ rfl
    refine .inr ⟨g, cap, arr, fz, by rw [Lib.byteCells_length]; rfl, Nat.zero_le _, g1, by simpa using g2, by rw [Lib.byteCells_length]; exact h1, h2, by simpa using g3, ?_⟩
    rw [Nat.mul_one]
    exact (List.prefix_iff_eq_take.1 g4).symm
theorem BufE.blk {sb : SV} {e : Ent} {l : List UInt8} (h : BufE sb e l) : e.id = (slV sb).ownBlock := by
  rcases h with ⟨rfl, rfl, rfl⟩ | ⟨g, cap, rfl, rfl, h0, h1, h2⟩ <;> rfl
theorem BufE.of {w : World} {v : Value} {l : List UInt8} (h0 : l ≠ []) (h : w.ownsRowF 0 5 1 v (Lib.byteCells l).length (Lib.byteCells l)) : ∃ sb e, v = slV sb ∧ BufE sb e l ∧ e.ok w ∧ e.id = v.ownBlock := by
  rcases h.2 with ⟨rfl, hz⟩ | ⟨g, cap, cur, fz, rfl, _, hg, hfz, hnc, hcm, hcs, htake⟩
  · rw [Lib.byteCells_length] at hz
    exact absurd (List.eq_nil_of_length_eq_zero hz) h0
  · rw [Lib.byteCells_length] at hnc
    refine ⟨⟨some ⟨g, 0, none⟩, l.length, cap⟩, ⟨none, .pointer (some ⟨g, 5, none⟩) :: Lib.byteCells l, cap⟩, by rw [Lib.byteCells_length]; rfl, .inr ⟨g, cap, rfl, rfl, h0, hnc, hcm⟩, ⟨fun r hr => (by cases hr), fun a bs hf => ?_, fun a hf => (by cases hf)⟩, rfl⟩
    cases hf
    refine ⟨cur, fz, hg, by simpa using hfz, by simpa using hcs, ?_⟩
    rw [Nat.mul_one] at htake
    exact List.prefix_iff_eq_take.2 htake.symm

structure BkS where
  r : Nat
  sf : SV
  sc : SV
  sh : SV
  pa : Bool
  sb : SV
  n : Int
  eb : Ent
  l : List UInt8
def paV (r : Nat) : Bool → Value
  | true => .pointer (some ⟨r, 3, none⟩)
  | false => .pointer none
def boE (s : BkS) : Ent := ⟨some s.r, [slV s.sf, slV s.sc, slV s.sh, paV s.r s.pa, slV s.sb, .int .i64 s.n], 6⟩
def boL (s : BkS) : List Ent := [boE s, shE s.r 52 6, s.eb]

theorem bo_at {w : World} {s : BkS} {ro : Addr → Option Value} (hw : Holds w ⟨boL s, ro⟩) (hb : BufE s.sb s.eb s.l) : BAt w s.r (slV s.sf) (slV s.sc) (slV s.sh) (paV s.r s.pa) (slV s.sb) (.int .i64 s.n) (Lib.byteCells s.l) := by
  obtain ⟨arr, T, g1, g2, g3⟩ := (hw.ok (boE s) (by simp [boL])).row s.r rfl
  have h2 := (hw.ok (shE s.r 52 6) (by simp [boL])).shp ⟨s.r, 52, none⟩ rfl
  have hok := hw.ok s.eb (by simp [boL])
  have harr : arr = #[slV s.sf, slV s.sc, slV s.sh, paV s.r s.pa, slV s.sb, .int .i64 s.n] := by
    apply Array.toList_inj.1
    refine (g3.eq_of_length ?_).symm
    rw [Array.length_toList, g2]; rfl
  subst harr
  have hT : T = 52 := by
    simp only [World.shape?, g1, shE] at h2
    simpa using h2
  subst hT
  refine ⟨g1, hb.row hok, fun hc => ?_⟩
  have nd := hw.nd
  rw [← hb.blk] at hc
  simp [boL, boE, shE, Ent.id, Ent.fz] at nd
  simp only [Ent.id, Ent.fz] at hc
  simp_all
end Go.Proofs.YtnppmcgmmdcpiaaDoor
