import Derived.Test.YtnppmcgmmdcpiaaDoorBB
import Derived.Test.YtnppmcgmmdcpiaaDoorEngM
namespace Go.Proofs.YtnppmcgmmdcpiaaDoor
open Go.Eng
set_option maxRecDepth 20000
/-! ### the bank: the laws -/
theorem bcheck_ne7 (b : Bk) : bcheck b ≠ 7 := by
  intro h
  unfold bcheck at h
  (repeat' split at h) <;> cases h
theorem basked_ne7 (b : Bk) (t : Int) (want : List Int) : basked b t want ≠ 7 := by
  intro h
  unfold basked at h
  split at h
  · exact bcheck_ne7 b h
  · (repeat' split at h) <;> cases h
theorem bask_seven {b : Bk} {t : Int} {want : List Int} (h : bask b t want = 7) : BAsk b t want ∧ BOk (bmv b t.toNat want 1) ∧ brow (bmv b t.toNat want 1) = none := by
  unfold bask at h
  split at h
  · exact absurd h (basked_ne7 b t want)
  rename_i h0
  have hA := basked_zero (Classical.byContradiction h0)
  split at h
  · cases h
  rename_i h1
  split at h
  · cases h
  rename_i h2
  split at h
  · rename_i h3
    exact ⟨hA, bask_mv hA (fun k hk => Classical.byContradiction fun hc => h1 ⟨k, hk, by omega⟩) (fun k hk => Classical.byContradiction fun hc => h2 ⟨k, hk, by omega⟩), h3⟩
  · cases h
theorem bask_nil {b : Bk} {t : Int} {want : List Int} (h : bask b t want = 0) : ∃ r, brow (bmv b t.toNat want 1) = some r := by
  unfold bask at h
  split at h
  · rename_i h0; exact absurd h h0
  split at h
  · cases h
  split at h
  · cases h
  split at h
  · cases h
  · rename_i h3
    exact Option.ne_none_iff_exists'.1 h3
theorem in_bank {K : Type} {enc : TypeId × Value → K} {W : World} {v : Value} {d : DataW K} {ps : List MemPlace} (hv : Value.okWide Tryd.prog W .any 0 25 v) (h : DataW.Trod enc Tryd.prog W 0 (fun _ => true) true 25 v d ps) :
    ∃ (sf sc sh : SV) (b : Bk), v = bkV sf sc sh ∧ BkRd ⟨[], W.cell?⟩ sf sc sh b := by
  obtain ⟨s, sc, sh, xs, rc, rh, rfl, h1, h2, h3⟩ := in_three (e := 3) Tryd.underlying25 ⟨rfl, rfl, rfl⟩ rfl rfl rfl rfl rfl Tryd.underlying22 Tryd.underlying3 rfl Tryd.underlying23 hv h
  exact ⟨s, sc, sh, ⟨xs, rc.map Prod.snd, rh.map Prod.snd⟩, rfl, h1, ⟨rc, h2, rfl⟩, ⟨rh, h3, rfl⟩⟩
end Go.Proofs.YtnppmcgmmdcpiaaDoor
