import Derived.WalkKit
import Derived.Laws.StructEq
import Derived.RegionTactic
import Derived.ChangeAlike
import Derived.Deep.QuietTactic
import Derived.BigQuiet
import Derived.Test.YtogbkgimpkaemaaProg
namespace Go.Proofs.Ytogbkgimpkaemaa
open Go Go.Proofs Go.RowKit
theorem top_neq (a0 t0 a t : Int) (w : World) : (binOp .neq 70 (.agg #[.int .i64 a0, .int .i64 t0]) (.agg #[.int .i64 a, .int .i64 t])).run Try.prog w = .ok (.bool (!((a0 == a) && (t0 == t)))) w := by
  have hst : Try.prog.stoodInHeld 70 = false := by kernel_rfl
  have hu : Try.prog.underlying 70 = some (.struct (Try.prog.fieldsOf 70)) := by kernel_rfl
  rw [run_neq_struct, run_equalIn_agg _ _ _ _ _ hu hst]
  have hf : (Try.prog.fieldsOf 70).toList.map (fun f => (f.name == "_", f.type, f.offset)) = [(false, 3, 0), (false, 3, 1)] := by kernel_rfl
  have hi : Try.prog.underlying 3 = some (.int .i64) := by kernel_rfl
  have hp0 : (part 3 #[.int .i64 a0, .int .i64 t0] 0).run Try.prog w = .ok (.int .i64 a0) w := by kernel_rfl
  have hp1 : (part 3 #[.int .i64 a0, .int .i64 t0] 1).run Try.prog w = .ok (.int .i64 t0) w := by kernel_rfl
  have hq0 : (part 3 #[.int .i64 a, .int .i64 t] 0).run Try.prog w = .ok (.int .i64 a) w := by kernel_rfl
  have hq1 : (part 3 #[.int .i64 a, .int .i64 t] 1).run Try.prog w = .ok (.int .i64 t) w := by kernel_rfl
  generalize (Try.prog.fieldsOf 70).toList = fs at hf
  obtain ⟨f, g, rfl⟩ : ∃ f g, fs = [f, g] := by
    have hl := congrArg List.length hf
    rw [List.length_map] at hl
    match fs, hl with
    | [f, g], _ => exact ⟨f, g, rfl⟩
  simp only [List.map_cons, List.map_nil, List.cons.injEq, Prod.mk.injEq, and_true] at hf
  obtain ⟨⟨n1, n2, n3⟩, m1, m2, m3⟩ := hf
  have e1 : f.name ≠ "_" := by simpa using n1
  have e2 : g.name ≠ "_" := by simpa using m1
  simp only [Op.eqFields, if_pos e1, if_pos e2, n2, n3, m2, m3, Sem.run_bind, hp0, hq0, Result.andThen_ok, run_equalIn_int _ _ _ _ _ _ _ hi]
  by_cases h1 : a0 = a
  · subst h1
    by_cases h2 : t0 = t
    · subst h2
      simp [hp1, run_equalIn_int _ _ _ _ _ _ _ hi, Sem.run_bind]
    · simp [h2, hp1, hq1, run_equalIn_int _ _ _ _ _ _ _ hi, Sem.run_bind]
  · simp [h1]
set_option maxHeartbeats 1000000 in
theorem cas_in (p : Nat) (a0 t0 a t x y : Int) (w : World) (h0 : w.cell? ⟨p, 1, none⟩ = some (.int .i64 a0)) (h1 : w.cell? ⟨p, 2, none⟩ = some (.int .i64 t0)) (f0 : w.frozen? ⟨p, 1, none⟩ = false) (f1 : w.frozen? ⟨p, 2, none⟩ = false) :
    Calls Try.prog 35 #[.pointer (some ⟨p, 1, none⟩), .agg #[.int .i64 a, .int .i64 t], .agg #[.int .i64 x, .int .i64 y]] w fun e w' =>
      ((a0 = a ∧ t0 = t) ∧ e = .returned (.bool true) ∧ Below w.heap.size ((w.setCell ⟨p, 1, none⟩ (.int .i64 x)).setCell ⟨p, 2, none⟩ (.int .i64 y)) w') ∨ (¬ (a0 = a ∧ t0 = t) ∧ e = .returned (.bool false) ∧ Below w.heap.size w w') := by
  have hp : p < w.heap.size := by
    rcases Nat.lt_or_ge p w.heap.size with h | h
    · exact h
    · simp [World.cell?, Array.getElem?_eq_none h] at h0
  have g0 : ((w.alloc (.cells #[.int .i64 a, .int .i64 t] 70)).alloc (.cells #[.int .i64 x, .int .i64 y] 70)).cell? ⟨p, 1, none⟩ = some (.int .i64 a0) := by rw [World.cell?_alloc_lt _ _ ⟨p, 1, none⟩ (by simp; omega), World.cell?_alloc_lt _ _ ⟨p, 1, none⟩ hp]; exact h0
  have g1 : ((w.alloc (.cells #[.int .i64 a, .int .i64 t] 70)).alloc (.cells #[.int .i64 x, .int .i64 y] 70)).cell? ⟨p, 2, none⟩ = some (.int .i64 t0) := by rw [World.cell?_alloc_lt _ _ ⟨p, 2, none⟩ (by simp; omega), World.cell?_alloc_lt _ _ ⟨p, 2, none⟩ hp]; exact h1
  have g2 : ((w.alloc (.cells #[.int .i64 a, .int .i64 t] 70)).alloc (.cells #[.int .i64 x, .int .i64 y] 70)).frozen? ⟨p, 1, none⟩ = false := by rw [World.frozen?_alloc_old _ _ ⟨p, 1, none⟩ (by simp; omega), World.frozen?_alloc_old _ _ ⟨p, 1, none⟩ (Nat.ne_of_lt hp)]; exact f0
  have g3 : ((w.alloc (.cells #[.int .i64 a, .int .i64 t] 70)).alloc (.cells #[.int .i64 x, .int .i64 y] 70)).frozen? ⟨p, 2, none⟩ = false := by rw [World.frozen?_alloc_old _ _ ⟨p, 2, none⟩ (by simp; omega), World.frozen?_alloc_old _ _ ⟨p, 2, none⟩ (Nat.ne_of_lt hp)]; exact f1
  have hneq := top_neq a0 t0 a t
  go_enter Try.func35, Try.ntmps35
  go_wp2
  have mixed : Try.prog.follows .mixedOrders = true := by kernel_rfl
  go_region
  all_goals go_wp2
  all_goals go_ret
  all_goals first
    | exact .inl ⟨by first | omega | simp_all, rfl, (((Below.refl _ _).alloc (by simp [World.setCell]) _).alloc (by simp [World.setCell]) _).drew⟩
    | exact .inr ⟨by first | omega | (intro hc; simp_all; done) | (intro hc; obtain ⟨hc1, hc2⟩ := hc; subst hc1; subst hc2; simp_all), rfl, (((Below.refl _ _).alloc (Nat.le_refl _) _).alloc (by simp) _).drew⟩
end Go.Proofs.Ytogbkgimpkaemaa
