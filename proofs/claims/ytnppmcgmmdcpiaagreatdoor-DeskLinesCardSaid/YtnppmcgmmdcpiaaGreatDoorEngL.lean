
import Derived.Test.YtnppmcgmmdcpiaaGreatDoorEngJ
import Derived.Test.YtnppmcgmmdcpiaaGreatDoorEngK
import Derived.Deep.SlicePairs
namespace Go.Eng
open Go.ChangeShapes Go.WideShapes Go.ChangeAt Go.RowKit Go.WideElems Go.Deep
section
variable {K : Type} {enc : TypeId × Value → K} {P : Program} {W : World} {t e : TypeId} {v : Value} {d : DataW K} {ps : List MemPlace}
end
theorem RdRows.frozen {sz : Nat} {e : Ent} {ro : Addr → Option Value} {s : SV} {xs : List Value} (ho : OwnsSl sz s e xs) : RdRows ⟨[], Go.Eng.frozen e ro⟩ sz s xs := by
  rcases ho with ⟨h1, h2, _, _, _, rfl⟩ | ⟨b, off, h1, h2, h3, _, _, _, h7⟩
  · exact ⟨by simp [h2], fun _ => h2, fun b hb => (by rw [h1] at hb; cases hb)⟩
  · refine ⟨by rw [← h7, List.length_drop, h3]; omega, fun ha => (by rw [h1] at ha; cases ha), fun b' hb i v hv => ?_⟩
    rw [h1] at hb
    cases hb
    rw [add_mk']
    refine rdr ?_
    show (if e.aid = some b ∧ (none : Option _) = none then e.cells[off + i]? else _) = some v
    rw [if_pos ⟨h2, rfl⟩, ← hv, ← h7, List.getElem?_drop]
theorem SemCall.frz {P : Program} {f : FuncId} {args : Array Value} {own : List Ent} {ro : Addr → Option Value} {post : Value → H → Prop} {sz : Nat} {s : SV} {xs : List Value} (A : List Ent) (e : Ent) (C : List Ent) (hown : own = A ++ e :: C) (ho : OwnsSl sz s e xs)
    (hk : ∀ ro', (∀ a v, ro a = some v → ro' a = some v) → RdRows ⟨[], ro'⟩ sz s xs → SemCall P f args ⟨A ++ C, ro'⟩ post) : SemCall P f args ⟨own, ro⟩ post := by
  subst hown
  refine SemCall.apart fun hro => ?_
  have hf : ∀ a v, ro a = some v → e.id ≠ some a.block := fun a v h => hro a v h e (by simp)
  exact SemCall.ghost (Gh.freeze A C ro e hf) (hk _ (frozen_mono hf) (RdRows.frozen ho))
theorem RdSl.rdi {h : H} {s : SV} {xs : List Int} (r : RdSl h s (ints xs)) {b : Addr} (hb : s.a = some b) {i : Nat} {x : Int} (hx : xs[i]? = some x) : H.rd h (Addr.add (Addr.add b (i * 1)) 0) (.int .i64 x) := by
  have := r.get hb (i := i) (v := .int .i64 x) (by rw [ints_get, hx]; rfl)
  simpa [Addr.add_zero'] using this
theorem RdRows.up {h h2 : H} {sz : Nat} {s : SV} {xs : List Value} (r : RdRows ⟨[], h.ro⟩ sz s xs) (hr : ∀ a v, h.ro a = some v → h2.ro a = some v) : RdRows h2 sz s xs := r.mono (by simp) hr
end Go.Eng
