import Derived.Test.YtkokdeenniejjaaDoorAsem
namespace Go.Proofs.YtkokdeenniejjaaDoor
open Go.Eng
set_option maxRecDepth 20000
/-! ### what references do: copies that nobody writes again -/
theorem app_new {s : SV} {xs : List Int} {own : List Ent} {ro : Addr → Option Value} {K : SV → H → Prop} (hr : RdSl ⟨own, ro⟩ s (ints xs)) (hb : s.len ≤ 1000000000)
    (hk : ∀ (s' : SV) (e' : Ent), OwnsSl 1 s' e' (ints xs) → s'.len = s.len → (∀ a v, ro a = some v → e'.id ≠ some a.block) → K s' ⟨own ++ [e'], ro⟩) :
    appVC Tryd.prog 22 (.slice none 0 0) (.slice s.a s.len s.cap) ⟨own, ro⟩ K := by
  refine appVC_of (s := ⟨none, 0, 0⟩) (s2 := s) grows_ints (ys := ints xs) (by have := hr.len; omega) hr.rows.rdS (allOne_ints xs) hr.2.1 (A := own) (C := []) (en := ⟨none, [], 0⟩) (xs := []) (by simpa using Gh.phantom own [] ro 0) (OwnsSl.nil 1) (by simp only; omega) (fun s' e' o l _ _ hf => hk s' e' (by simpa using o) (by simpa using l) (fun a v hv hid => ?_))
  rcases hf _ hid with h | h
  · cases h
  · exact h.2 a v hv rfl
theorem join_bk {h : H} {A : (Bool → H → Prop) → Prop} {K : Bool → H → Prop} (b : Bool) (hK : K b h) (hA : A (fun x h' => h' = h ∧ x = b)) : ∃ R : Bool → H → Prop, A R ∧ ∀ (_ : F) (x : Bool) (h' : H), R x h' → K x h' := join_b b hA hK
end Go.Proofs.YtkokdeenniejjaaDoor
