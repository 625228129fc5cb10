import Derived.Test.YtiaopgnnibidlaaDoorDj
namespace Go.Proofs.YtiaopgnnibidlaaDoor
open Go.Eng
set_option maxRecDepth 20000
set_option maxRecDepth 20000 in
theorem grows_forks : Grows Tryd.prog 62 66 3 := ⟨rfl, rfl, by decide, by decide, ⟨_, rfl, rfl, ⟨rfl, rfl, rfl, trivial⟩⟩⟩
set_option maxRecDepth 20000 in
theorem grows_bools : Grows Tryd.prog 39 4 1 := ⟨rfl, rfl, by decide, by decide, ⟨_, rfl, rfl, ⟨rfl, trivial⟩⟩⟩
def tab0 (n : Nat) : TS := ⟨n, fun _ => 0, fun k => if nxt n k < k then nxt n k else k, fun k => if nxt n k > k then nxt n k else k, fun _ => true⟩
theorem tab_new_c {n : Int} {own : List Ent} {ro : Addr → Option Value} {post : Value → H → Prop}
    (h1 : ¬ (3 ≤ n ∧ n ≤ 6) → post (.tuple (List.toArray [.pointer none, errV (eno 61 1)])) ⟨own, ro⟩)
    (h2 : ∀ p L, TabAt p (tab0 n.toNat) L → 3 ≤ n → n ≤ 6 → post (.tuple (List.toArray [.pointer (some (Addr.mk p 0 none)), errV none])) ⟨own ++ L, ro⟩) : SemCall Tryd.prog 5 (List.toArray [.int .i64 n]) ⟨own, ro⟩ post := by
  refine f5_call _ _ post ?_
  refine within_c ⟨_, rfl, VIf_nb (fun hx => ret (h1 (of_decide_eq_false hx))) (fun hx => ?_)⟩
  obtain ⟨n3, n6⟩ := of_decide_eq_true hx
  obtain ⟨N, rfl⟩ : ∃ N : Nat, n = (N : Int) := ⟨n.toNat, by omega⟩
  simp only [repl_ints, Int.toNat_natCast]
  refine ⟨by omega, by omega, by omega, by omega, fun g _ p _ => ?_⟩
  simp only [List.append_assoc]
  refine ⟨fun h => ∃ sf ef, h = ⟨own ++ tabE p g N (List.replicate N 0) 2 N sf ef, ro⟩ ∧ OwnsSl 3 sf ef ((tab0 N).forks.flatMap fkV), ⟨fun m x h => ∃ (k : Nat) (sf : SV) (ef : Ent), x = (k : Int) ∧ k ≤ N ∧ m = N - k ∧ h = ⟨own ++ tabE p g N (List.replicate N 0) 2 N sf ef, ro⟩ ∧ OwnsSl 3 sf ef ((rm k fun k => ((tab0 N).w k, (tab0 N).a k, true)).flatMap fkV), ⟨N, ⟨own ++ tabE p g N (List.replicate N 0) 2 N ⟨none, 0, 0⟩ ⟨none, [], 0⟩, ro⟩, ?_, 0, ⟨none, 0, 0⟩, ⟨none, [], 0⟩, rfl, by omega, rfl, rfl, OwnsSl.nil 3⟩, ?_⟩, ?_⟩
  · have := Gh.phantom (own ++ [⟨some g, ints (List.replicate N 0), (ints (List.replicate N 0)).length⟩, ⟨some p, [.slice (some (Addr.mk g 0 none)) N N, .slice none 0 0], 2⟩]) [] ro 0
    simpa [tabE] using this
  · rintro m _ x h ⟨k, sf, ef, rfl, hkN, rfl, rfl, ho⟩
    refine VIf_dec (fun hlt => ?_) (fun hlt => gi ⟨sf, ef, rfl, by rw [show k = N by omega] at ho; exact ho⟩)
    have hlt : (k : Int) < N := hlt
    have hl := ho.rows_len fkV_len (by omega)
    rw [rm_len] at hl
    have e1 : Int.tmod ((k : Int) + 1) (N : Int) = ((nxt N k : Nat) : Int) := by
      rw [show (k : Int) + 1 = ((k + 1 : Nat) : Int) by omega]; rfl
    refine ⟨⟨by omega, by omega⟩, by omega, _, rfl, sf, ?_, ?_⟩
    · rw [add_mk', add_mk']; exact rdo ⟨some p, [.slice (some (Addr.mk g 0 none)) N N, .slice sf.a sf.len sf.cap], 2⟩ (by simp [tabE]) rfl rfl
    rw [e1]
    have e2 : [Value.int .i64 (if ((nxt N k : Nat) : Int) < (k : Int) then ((nxt N k : Nat) : Int) else (k : Int)), Value.int .i64 (if ((nxt N k : Nat) : Int) > (k : Int) then ((nxt N k : Nat) : Int) else (k : Int)), Value.bool true] = fkV ((tab0 N).w k, (tab0 N).a k, true) := by
      have a1 : (if ((nxt N k : Nat) : Int) < (k : Int) then ((nxt N k : Nat) : Int) else (k : Int)) = (((tab0 N).w k : Nat) : Int) := by
        simp only [tab0]; split <;> split <;> omega
      have a2 : (if ((nxt N k : Nat) : Int) > (k : Int) then ((nxt N k : Nat) : Int) else (k : Int)) = (((tab0 N).a k : Nat) : Int) := by
        simp only [tab0]; split <;> split <;> omega
      rw [a1, a2]; rfl
    rw [e2]
    refine app_row grows_forks (vs := fkV ((tab0 N).w k, (tab0 N).a k, true)) rfl ⟨rfl, rfl, rfl, trivial⟩ (own ++ [_, _]) ef [] (by simp [tabE]; exact ⟨rfl, rfl⟩) ho (by omega) (fun s2 e2 o2 l2 => ⟨_, rfl, ?_⟩)
    rw [add_mk']
    refine wro (own ++ [⟨some g, ints (List.replicate N 0), N⟩]) ⟨some p, [.slice (some (Addr.mk g 0 none)) N N, .slice sf.a sf.len sf.cap], 2⟩ [e2] ⟨rfl, trivial⟩ (by simp) rfl (by simp) ⟨⟨by omega, by omega⟩, _, ?_, gi ⟨k + 1, s2, e2, rfl, by omega, rfl, by simp [tabE, spl], ?_⟩⟩
    · omega
    · rw [rm_succ, List.flatMap_append]; simpa using o2
  · rintro _ h ⟨sf, ef, rfl, ho⟩
    refine ret (h2 p _ ⟨by simp only [tab0, Int.toNat_natCast]; omega, by simp only [tab0, Int.toNat_natCast]; omega, g, 2, N, sf, ef, ?_, by rw [Int.toNat_natCast]; exact ho⟩ n3 n6)
    have : rm N (fun _ => (0 : Int)) = List.replicate N 0 := by simp [rm, List.map_const']
    simp only [Int.toNat_natCast, tab0, this]
def bV (b : Bool) : Value := .bool b
theorem tab_forks_c {p : Nat} {t : TS} {L own : List Ent} {ro : Addr → Option Value} {post : Value → H → Prop} (hs : TabAt p t L) (hL : ∀ e ∈ L, e ∈ own)
    (hk : ∀ sw sd ew ed, OwnsSl 1 sw ew (ints (rm t.n fun k => (t.w k : Int))) → OwnsSl 1 sd ed ((rm t.n t.d).map bV) → post (.tuple (List.toArray [.slice sw.a sw.len sw.cap, .slice sd.a sd.len sd.cap])) ⟨own ++ [ew, ed], ro⟩) :
    SemCall Tryd.prog 13 (List.toArray [.pointer (some (Addr.mk p 0 none))]) ⟨own, ro⟩ post := by
  obtain ⟨h3, h6, g, c, c1, sf, ef, rfl, ho⟩ := hs
  refine f13_call _ _ post ?_
  have hl := ho.rows_len fkV_len (by omega)
  rw [TS.forks, rm_len] at hl
  obtain ⟨b, hb⟩ : ∃ b, sf.a = some b := by
    rcases ho with ⟨_, h2, _⟩ | ⟨b, off, h1, _⟩
    · omega
    · exact ⟨_, h1⟩
  refine ⟨_, rfl, sf, ?_, ?_⟩
  · rw [add_mk', add_mk']; exact rdo _ (hL _ (.tail _ (.head _))) rfl rfl
  refine ⟨fun sw sd h => ∃ ew ed, h = ⟨own ++ [ew, ed], ro⟩ ∧ OwnsSl 1 sw ew (ints (rm t.n fun k => (t.w k : Int))) ∧ OwnsSl 1 sd ed ((rm t.n t.d).map bV), ⟨fun m sw sd x h => ∃ (k : Nat) (ew ed : Ent), x = (k : Int) ∧ k ≤ t.n ∧ m = t.n - k ∧ h = ⟨own ++ [ew, ed], ro⟩ ∧ OwnsSl 1 sw ew (ints (rm k fun k => (t.w k : Int))) ∧ OwnsSl 1 sd ed ((rm k t.d).map bV), ⟨t.n, ⟨own ++ [⟨none, [], 0⟩, ⟨none, [], 0⟩], ro⟩, ?_, 0, _, _, rfl, by omega, rfl, rfl, OwnsSl.nil 1, OwnsSl.nil 1⟩, ?_⟩, ?_⟩
  · have g1 := Gh.phantom own [] ro 0
    have g2 := Gh.phantom (own ++ [⟨none, [], 0⟩]) [] ro 0
    simp only [List.append_nil] at g1 g2
    have := g1.trans g2
    simpa using this
  · rintro m _ sw sd x h ⟨k, ew, ed, rfl, hkN, rfl, rfl, ow, od⟩
    refine VIf_dec (fun hlt => ?_) (fun hlt => ?_)
    · have hlt' : k < t.n := by have : (k : Int) < ((sf.len : Nat) : Int) := hlt; omega
      obtain ⟨f1, f2, f3⟩ := rd_fork (own := own ++ [ew, ed]) (ro := ro) (List.mem_append_left _ (hL _ (.tail _ (.tail _ (.head _))))) ho hb hlt'
      rw [Addr.add_zero'] at f1 f2 f3
      have lw := ow.sl_len; have ld := od.sl_len
      rw [ints_length, rm_len] at lw
      rw [List.length_map, rm_len] at ld
      refine ⟨b, hb, by omega, by omega, _, f1, _, f2, _, f3, ?_⟩
      intro r _
      refine ⟨rfl, rfl, wro (own ++ [ew, ed]) ⟨some r, [.int .i64 0, .int .i64 0, .bool false], 3⟩ [] ⟨rfl, rfl, rfl, trivial⟩ rfl rfl (by simp) ?_⟩
      generalize hT : (⟨some r, spl [.int .i64 0, .int .i64 0, .bool false] 0 [.int .i64 (t.w k : Int), .int .i64 (t.a k : Int), .bool (t.d k)], 3⟩ : Ent) = T
      have rW : ∀ {own2 : List Ent}, T ∈ own2 → H.rd ⟨own2, ro⟩ (Addr.add (Addr.add (Addr.mk r 0 none) 0) 0) (.int .i64 (t.w k : Int)) := fun h => by
        rw [add_mk', add_mk']; subst hT; exact rdo _ h rfl rfl
      have rD : ∀ {own2 : List Ent}, T ∈ own2 → H.rd ⟨own2, ro⟩ (Addr.add (Addr.add (Addr.mk r 0 none) 2) 0) (.bool (t.d k)) := fun h => by
        rw [add_mk', add_mk']; subst hT; exact rdo _ h rfl rfl
      obtain ⟨R, hR⟩ : ∃ R : SV → SV → H → Prop, R = fun sw sd h => ∃ ew ed Y, h = ⟨own ++ (ew :: ed :: Y), ro⟩ ∧ OwnsSl 1 sw ew (ints (rm (k + 1) fun k => (t.w k : Int))) ∧ OwnsSl 1 sd ed ((rm (k + 1) t.d).map bV) := ⟨_, rfl⟩
      have aD : ∀ {own2 : List Ent} {s1 : SV} {e1 : Ent} {Y : List Ent} {r2 : Nat}, own2 = own ++ (e1 :: ed :: Y) → ⟨some r2, [.bool (t.d k)], 1⟩ ∈ Y → OwnsSl 1 s1 e1 (ints (rm (k + 1) fun k => (t.w k : Int))) →
          appVC Tryd.prog 39 (.slice sd.a sd.len sd.cap) (.slice (some (Addr.mk r2 0 none)) 1 1) ⟨own2, ro⟩ fun x h => ∃ h', Gh h h' ∧ R s1 x h' := by
        intro own2 s1 e1 Y r2 h1 h2 h3
        subst h1
        refine appVC_of (s2 := ⟨some (Addr.mk r2 0 none), 1, 1⟩) grows_bools (ys := [.bool (t.d k)]) (by simp) ?_ ⟨rfl, trivial⟩ (by simp) (Gh.drop (own' := (own ++ [e1]) ++ ed :: Y) (by simp)) od (by simp only; omega) (fun s' e' o1 _ _ _ _ => gi ?_)
        · intro j v hv
          rw [add_mk']
          exact rdo ⟨some r2, [.bool (t.d k)], 1⟩ (by simp [h2]) rfl (by simpa using hv)
        · rw [hR]
          exact ⟨e1, e', Y, by simp, h3, by rw [rm_succ, List.map_append]; exact o1⟩
      have aW : ∀ {own2 : List Ent} {Y : List Ent} {r1 : Nat} {K : SV → H → Prop}, own2 = own ++ (ew :: ed :: Y) → ⟨some r1, [.int .i64 (t.w k : Int)], 1⟩ ∈ Y →
          (∀ s1 e1, OwnsSl 1 s1 e1 (ints (rm (k + 1) fun k => (t.w k : Int))) → K s1 ⟨own ++ (e1 :: ed :: Y), ro⟩) →
          appVC Tryd.prog 29 (.slice sw.a sw.len sw.cap) (.slice (some (Addr.mk r1 0 none)) 1 1) ⟨own2, ro⟩ K := by
        intro own2 Y r1 K h1 h2 h3
        subst h1
        refine appVC_of (s2 := ⟨some (Addr.mk r1 0 none), 1, 1⟩) grows_ints (ys := [.int .i64 (t.w k : Int)]) (by simp) ?_ ⟨rfl, trivial⟩ (by simp) (Gh.drop (own' := own ++ ew :: (ed :: Y)) (by simp)) ow (by simp only; omega) (fun s' e' o1 _ _ _ _ => ?_)
        · intro j v hv
          rw [add_mk']
          exact rdo ⟨some r1, [.int .i64 (t.w k : Int)], 1⟩ (by simp [h2]) rfl (by simpa using hv)
        · exact h3 s' e' (by rw [rm_succ]; simpa [ints, intV] using o1)
      refine ⟨R, ⟨⟨_, rW (by simp), fun r1 _ => ⟨?_, _, rD (by simp), ?_, ?_⟩, _, rD (by simp), fun r1 _ => ⟨?_, ?_⟩, fun r2 _ r1 _ => ?_⟩, _, rD (by simp), ⟨_, rW (by simp), fun r1 _ => ⟨?_, ?_⟩, fun r2 _ r1 _ => ?_⟩, fun r2 _ => ⟨_, rW (by simp), fun r1 _ => ?_⟩⟩, ?_⟩
      · exact aW (Y := [T, ⟨some r1, [.int .i64 (t.w k : Int)], 1⟩]) (by simp) (by simp) (fun s1 e1 o1 => ⟨_, rD (by simp), fun r2 _ => aD (Y := [T, ⟨some r1, [.int .i64 (t.w k : Int)], 1⟩, ⟨some r2, [.bool (t.d k)], 1⟩]) (by simp) (by simp) o1⟩)
      · exact aW (Y := [T, ⟨some r1, [.int .i64 (t.w k : Int)], 1⟩]) (by simp) (by simp) (fun s1 e1 o1 r2 _ => aD (Y := [T, ⟨some r1, [.int .i64 (t.w k : Int)], 1⟩, ⟨some r2, [.bool (t.d k)], 1⟩]) (by simp) (by simp) o1)
      · exact fun r2 _ => aW (Y := [T, ⟨some r1, [.int .i64 (t.w k : Int)], 1⟩, ⟨some r2, [.bool (t.d k)], 1⟩]) (by simp) (by simp) (fun s1 e1 o1 => aD rfl (by simp) o1)
      · exact aW (Y := [T, ⟨some r1, [.int .i64 (t.w k : Int)], 1⟩]) (by simp) (by simp) (fun s1 e1 o1 r2 _ => aD (Y := [T, ⟨some r1, [.int .i64 (t.w k : Int)], 1⟩, ⟨some r2, [.bool (t.d k)], 1⟩]) (by simp) (by simp) o1)
      · exact fun r2 _ => aW (Y := [T, ⟨some r1, [.int .i64 (t.w k : Int)], 1⟩, ⟨some r2, [.bool (t.d k)], 1⟩]) (by simp) (by simp) (fun s1 e1 o1 => aD rfl (by simp) o1)
      · exact aW (Y := [T, ⟨some r2, [.bool (t.d k)], 1⟩, ⟨some r1, [.int .i64 (t.w k : Int)], 1⟩]) (by simp) (by simp) (fun s1 e1 o1 => aD rfl (by simp) o1)
      · exact aW (Y := [T, ⟨some r1, [.int .i64 (t.w k : Int)], 1⟩]) (by simp) (by simp) (fun s1 e1 o1 r2 _ => aD (Y := [T, ⟨some r1, [.int .i64 (t.w k : Int)], 1⟩, ⟨some r2, [.bool (t.d k)], 1⟩]) (by simp) (by simp) o1)
      · exact fun r2 _ => aW (Y := [T, ⟨some r1, [.int .i64 (t.w k : Int)], 1⟩, ⟨some r2, [.bool (t.d k)], 1⟩]) (by simp) (by simp) (fun s1 e1 o1 => aD rfl (by simp) o1)
      · exact aW (Y := [T, ⟨some r2, [.bool (t.d k)], 1⟩, ⟨some r1, [.int .i64 (t.w k : Int)], 1⟩]) (by simp) (by simp) (fun s1 e1 o1 => aD rfl (by simp) o1)
      · exact aW (Y := [T, ⟨some r2, [.bool (t.d k)], 1⟩, ⟨some r1, [.int .i64 (t.w k : Int)], 1⟩]) (by simp) (by simp) (fun s1 e1 o1 => aD rfl (by simp) o1)
      · rw [hR]
        rintro _ sw sd h ⟨ew, ed, Y, rfl, o1, o2⟩
        refine ⟨⟨by omega, by omega⟩, _, ?_, ⟨own ++ [ew, ed], ro⟩, Gh.drop (by simp), k + 1, ew, ed, rfl, by omega, rfl, rfl, o1, o2⟩
        omega
    · obtain rfl : k = t.n := by have : ¬ (k : Int) < ((sf.len : Nat) : Int) := hlt; omega
      exact gi ⟨ew, ed, rfl, ow, od⟩
  · rintro _ sw sd h ⟨ew, ed, rfl, ow, od⟩
    exact ret (hk sw sd ew ed ow od)
end Go.Proofs.YtiaopgnnibidlaaDoor
