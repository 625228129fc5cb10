import Derived.OneCell
import Derived.Test.YtnppmcgmmdcpiaaGreatDoorC
import Derived.Test.YtnppmcgmmdcpiaaGreatDoorAs
namespace Go.Proofs.YtnppmcgmmdcpiaaGreatDoor
open Go.Eng
set_option maxRecDepth 20000
/-! ### errors.As at an Errno; what is told of an error -/
def errT : Value := .iface 141 (.agg #[.pointer (some ⟨9, 32, none⟩)])
def HasErrT (ro : Addr → Option Value) : Prop := ro ⟨0, 0, none⟩ = some errT
theorem as_sem {k : Int} {r : Nat} {own : List Ent} {ro : Addr → Option Value} {post : Value → H → Prop} (A C : List Ent) (hg : HasErrT ro) (hown : own = A ++ ⟨some r, [.int .i64 0], 1⟩ :: C)
    (hk : post (.bool true) ⟨A ++ ⟨some r, [.int .i64 k], 1⟩ :: C, ro⟩) : SemCall Tryz.prog 57 (List.toArray [errV (some (57, .int .i64 k)), .iface 95 (.pointer (some (Addr.mk r 0 none)))]) ⟨own, ro⟩ post := by
  subst hown
  intro w hw
  obtain ⟨arr, T, g1, g2, g3⟩ := (hw.ok ⟨some r, [.int .i64 0], 1⟩ (by simp)).row r rfl
  have harr : arr = #[.int .i64 0] := by
    obtain ⟨tl, htl⟩ := g3
    have h1 : arr.toList.length = 1 := by simp; exact g2
    rw [← htl] at h1
    have : tl = [] := by simpa using h1
    rw [this] at htl
    apply Array.toList_inj.1
    rw [← htl]; rfl
  subst harr
  have hc : w.cell? ⟨r, 0, none⟩ = some (.int .i64 0) := by simp [World.cell?, g1]
  have hf : w.frozen? ⟨r, 0, none⟩ = false := by simp [World.frozen?, g1]
  have hlt : r < w.heap.size := ids_lt hw (e := ⟨some r, [.int .i64 0], 1⟩) (by simp) rfl
  refine (as_hit k ⟨r, 0, none⟩ (.int .i64 0) w (hw.ro _ _ hg) hc hf).mono ?_
  rintro e w' ⟨rfl, rfl⟩
  have hal : ∀ (W : World) (o : Obj) (j : Nat), j < W.heap.size → (W.alloc o).heap[j]? = W.heap[j]? := fun W o j hj => Go.RowKit.Below.heap_alloc W o j hj
  refine ⟨.bool true, ⟨A ++ ⟨some r, [.int .i64 k], 1⟩ :: C, ro⟩, rfl, ?_⟩
  rw [← and_assoc]
  refine ⟨?_, hk⟩
  refine swap_holds (en' := ⟨some r, [.int .i64 k], 1⟩) hw rfl rfl rfl (by simp; omega) ?_ ?_ ?_ (fun b hb => .inl hb)
  · intro j hj
    by_cases hjr : j = r
    · subst hjr
      have h1 : ∀ W : World, W.heap[j]? = some (.cells #[.int .i64 0] T (0, 0)) → (W.setCell ⟨j, 0, none⟩ (.int .i64 k)).shape? j = w.shape? j := by
        intro W hW
        simp only [World.shape?, Go.one_setCell (v := .int .i64 0) hW, g1]
        rfl
      refine h1 _ ?_
      rw [hal _ _ _ (by simp; omega), hal _ _ _ (by simp; omega), hal _ _ _ (by simp; omega), hal _ _ _ hlt]
      exact g1
    · refine shape_of_heap ?_
      rw [Go.RowKit.Below.heap_setCell _ _ _ _ hjr]
      rw [hal _ _ _ (by simp; omega), hal _ _ _ (by simp; omega), hal _ _ _ (by simp; omega), hal _ _ _ hj]
  · intro j hj hne
    rw [Go.RowKit.Below.heap_setCell _ _ _ _ (fun h => hne (by rw [h]; rfl))]
    rw [hal _ _ _ (by simp; omega), hal _ _ _ (by simp; omega), hal _ _ _ (by simp; omega), hal _ _ _ hj]
  · refine ⟨fun j hj => ?_, fun a bs hf => (by cases hf), fun a hf => (by cases hf)⟩
    cases hj
    refine ⟨#[.int .i64 k], T, ?_, rfl, by simp⟩
    refine Go.one_setCell (v := .int .i64 0) ?_
    rw [hal _ _ _ (by simp; omega), hal _ _ _ (by simp; omega), hal _ _ _ (by simp; omega), hal _ _ _ hlt]
    exact g1
theorem told_c {e : Int} {own : List Ent} {ro : Addr → Option Value} {post : Value → H → Prop} (hg : HasErrT ro) (hk : post (.int .i64 e) ⟨own, ro⟩) : SemCall Tryz.prog 31 (List.toArray [errV (eno 57 e)]) ⟨own, ro⟩ post := by
  refine f31_call _ _ post (VIf_err (fun h0 => ret (by rw [h0] at hk; exact hk)) (fun h0 => ?_))
  intro r _
  have e1 : eno 57 e = some (57, .int .i64 e) := if_neg h0
  rw [e1]
  refine as_sem own [] hg (by simp) ⟨_, rfl, VIf_b (fun _ => ⟨e, rdo ⟨some r, [.int .i64 e], 1⟩ (by simp) rfl rfl, ?_⟩) (nomatch ·)⟩
  exact ⟨⟨own, ro⟩, Gh.drop (by simp), hk⟩
theorem same_error_c {e x : Int} {own : List Ent} {ro : Addr → Option Value} {post : Value → H → Prop} (hg : HasErrT ro) (hk : post (.bool (decide (e = x))) ⟨own, ro⟩) : SemCall Tryz.prog 15 (List.toArray [errV (eno 57 e), .int .i64 x]) ⟨own, ro⟩ post := by
  refine f15_call _ _ _ post (told_c hg ⟨_, rfl, ret ?_⟩)
  rw [show (e == x) = decide (e = x) from rfl]
  exact hk
end Go.Proofs.YtnppmcgmmdcpiaaGreatDoor
