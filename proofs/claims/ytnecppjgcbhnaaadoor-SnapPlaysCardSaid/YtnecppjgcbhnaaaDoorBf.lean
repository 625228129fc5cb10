import Derived.Test.YtnecppjgcbhnaaaDoorBe
namespace Go.Proofs.YtnecppjgcbhnaaaDoor
open Go.Eng
set_option maxRecDepth 20000
/-! ### a new one of the document's boards; what a board tells -/
theorem Wf.of_ids {a b : List Ent} {ro : Addr → Option Value} (h : Wf ⟨a, ro⟩) (p : (b.map Ent.id).Perm (a.map Ent.id)) : Wf ⟨b, ro⟩ := by
  have e : ∀ l : List Ent, l.filterMap Ent.id = (l.map Ent.id).filterMap id := fun l => by rw [List.filterMap_map]; rfl
  refine ⟨?_, fun x v hv en he => ?_⟩
  · have := h.nd
    dsimp only at this ⊢
    rw [e] at this ⊢
    exact (List.Perm.nodup_iff (p.filterMap id)).2 this
  · have hm : en.id ∈ a.map Ent.id := p.mem_iff.1 (List.mem_map_of_mem he)
    obtain ⟨e2, h2, h3⟩ := List.mem_map.1 hm
    rw [← h3]; exact h.ap x v hv e2 h2
theorem mkV {own l : List Ent} {ro : Addr → Option Value} {c : List Value} {K : Nat → H → Prop} (hw : Wf ⟨own ++ l, ro⟩) (h : ∀ r, Wf ⟨own ++ (l ++ [⟨some r, c, c.length⟩]), ro⟩ → K r ⟨own ++ (l ++ [⟨some r, c, c.length⟩]), ro⟩) : H.new ⟨own ++ l, ro⟩ c K := by
  intro r f
  show K r ⟨own ++ l ++ [⟨some r, c, c.length⟩], ro⟩
  rw [List.append_assoc]
  refine h r ?_
  rw [← List.append_assoc]
  exact hw.add f rfl
theorem repl_b (n : Nat) : repl n [Value.bool false] = (List.replicate n false).map Value.bool := by rw [svs_flat]; exact repl_rows (f := fun x => [Value.bool x]) false _
theorem repl_s (n : Nat) : repl n [Value.slice none 0 0] = (List.replicate n zV).map svV := by rw [svs_flat]; exact repl_rows (f := fun x => [svV x]) zV _
def b0 (n : Nat) : Board := ⟨List.replicate n ⟨0, 0, List.replicate n 0⟩, List.replicate n shand0⟩
set_option maxHeartbeats 4000000 in
theorem ref_bnew_c {n : Nat} {own : List Ent} {ro : Addr → Option Value} {post : Value → H → Prop} (hn : n ≤ 4) (hk : ∀ S ro', (∀ a v, ro a = some v → ro' a = some v) → BdR ro' n (b0 n) S → post (.agg (List.toArray (bsC S))) ⟨own, ro'⟩) :
    SemCall Tryd.prog 27 (List.toArray [.int .i64 (n : Int)]) ⟨own, ro⟩ post := by
  refine SemCall.wf (fun hw => ?_)
  refine f27_call _ _ post ?_
  have c8 : 0 ≤ (n : Int) ∧ (n : Int) ≤ (n : Int) ∧ ((8 : Nat) : Int) * (n : Int) ≤ 140737488355328 ∧ (n : Int) ≤ 1000000000 := ⟨by omega, Int.le_refl _, by omega, by omega⟩
  have c1 : 0 ≤ (n : Int) ∧ (n : Int) ≤ (n : Int) ∧ ((1 : Nat) : Int) * (n : Int) ≤ 140737488355328 ∧ (n : Int) ≤ 1000000000 := ⟨by omega, Int.le_refl _, by omega, by omega⟩
  have c24 : 0 ≤ (n : Int) ∧ (n : Int) ≤ (n : Int) ∧ ((24 : Nat) : Int) * (n : Int) ≤ 140737488355328 ∧ (n : Int) ≤ 1000000000 := ⟨by omega, Int.le_refl _, by omega, by omega⟩
  have nm : n ≤ maxLen := by simp only [maxLen]; omega
  have hw0 : Wf ⟨own ++ [], ro⟩ := by simpa using hw
  rw [show (⟨own, ro⟩ : H) = ⟨own ++ [], ro⟩ by simp]
  refine mkV hw0 (fun r1 hw1 => ⟨c8.1, c8.2.1, c8.2.2.1, c8.2.2.2, mkV hw1 (fun r3 hw3 => ⟨c8.1, c8.2.1, c8.2.2.1, c8.2.2.2, mkV hw3 (fun r5 hw5 => ⟨c1.1, c1.2.1, c1.2.2.1, c1.2.2.2, mkV hw5 (fun r7 hw7 => ⟨c24.1, c24.2.1, c24.2.2.1, c24.2.2.2, mkV hw7 (fun r9 hw9 => ⟨c24.1, c24.2.1, c24.2.2.1, c24.2.2.2, mkV hw9 (fun r11 hw11 => ⟨c24.1, c24.2.1, c24.2.2.1, c24.2.2.2, mkV hw11 (fun r13 hw13 => ⟨c24.1, c24.2.1, c24.2.2.1, c24.2.2.2, mkV hw13 (fun r15 hw15 => mkV hw15 (fun r17 hw17 => ?_))⟩)⟩)⟩)⟩)⟩)⟩)⟩)
  clear hw0 hw1 hw3 hw5 hw7 hw9 hw11 hw13 hw15
  simp only [List.nil_append, List.cons_append, Int.toNat_natCast] at hw17 ⊢
  rw [repl_ints, repl_b, repl_s] at hw17 ⊢
  obtain ⟨R, hR⟩ : ∃ R : List Ent, R = [⟨some r3, ints (List.replicate n 0), (ints (List.replicate n 0)).length⟩, ⟨some r5, ints (List.replicate n 0), (ints (List.replicate n 0)).length⟩, ⟨some r7, (List.replicate n false).map Value.bool, ((List.replicate n false).map Value.bool).length⟩, ⟨some r9, (List.replicate n zV).map svV, ((List.replicate n zV).map svV).length⟩, ⟨some r11, (List.replicate n zV).map svV, ((List.replicate n zV).map svV).length⟩, ⟨some r13, (List.replicate n zV).map svV, ((List.replicate n zV).map svV).length⟩, ⟨some r15, (List.replicate n zV).map svV, ((List.replicate n zV).map svV).length⟩] := ⟨_, rfl⟩
  obtain ⟨S0, hS0⟩ : ∃ S0 : BS, S0 = ⟨zV, ⟨some (Addr.mk r3 0 none), n, n⟩, ⟨some (Addr.mk r5 0 none), n, n⟩, ⟨some (Addr.mk r7 0 none), n, n⟩, ⟨some (Addr.mk r9 0 none), n, n⟩, ⟨some (Addr.mk r11 0 none), n, n⟩, ⟨some (Addr.mk r13 0 none), n, n⟩, ⟨some (Addr.mk r15 0 none), n, n⟩⟩ := ⟨_, rfl⟩
  refine bd_put (a0 := zV) (a1 := ⟨some (Addr.mk r3 0 none), n, n⟩) (a2 := ⟨some (Addr.mk r5 0 none), n, n⟩) (a3 := ⟨some (Addr.mk r7 0 none), n, n⟩) (a4 := ⟨some (Addr.mk r9 0 none), n, n⟩) (a5 := ⟨some (Addr.mk r11 0 none), n, n⟩) (a6 := ⟨some (Addr.mk r13 0 none), n, n⟩) (a7 := ⟨some (Addr.mk r15 0 none), n, n⟩) (z0 := zV) (z1 := zV) (z2 := zV) (z3 := zV) (z4 := zV) (z5 := zV) (z6 := zV) (z7 := zV) (own ++ bsZ r1 :: R) [] (by rw [hR]; simp; exact ⟨rfl, rfl⟩) ?_
  have hperm : ∀ E : Ent, (own ++ bsZ r1 :: (E :: R)).Perm ((own ++ bsZ r1 :: R) ++ [E]) := fun E => by
    rw [List.append_assoc]
    exact List.Perm.append_left _ (List.Perm.cons _ (List.perm_append_singleton _ _).symm)
  have hwR : Wf ⟨(own ++ [bsZ r1, bsE r17 S0]) ++ R, ro⟩ := by
    refine hw17.of_ids ?_
    have e1 : (own ++ [bsZ r1, bsE r17 S0]) ++ R = own ++ bsZ r1 :: (bsE r17 S0 :: R) := by simp
    rw [e1]
    refine ((hperm (bsE r17 S0)).map Ent.id).trans ?_
    rw [hR]
    simp [bsZ, bdE, bsE]
  obtain ⟨ro1, g1, mo1, rr⟩ := frzE (own := own ++ [bsZ r1, bsE r17 S0]) R ro hwR
  have G0 : Gh ⟨(own ++ bsZ r1 :: R) ++ [bsE r17 S0], ro⟩ ⟨(own ++ [bsZ r1]) ++ bsE r17 S0 :: [⟨none, [], 0⟩], ro1⟩ := by
    refine (Gh.perm (hperm (bsE r17 S0))).trans ?_
    have g2 := Gh.phantom (own ++ [bsZ r1, bsE r17 S0]) [] ro1 0
    have e1 : own ++ bsZ r1 :: (bsE r17 S0 :: R) = (own ++ [bsZ r1, bsE r17 S0]) ++ R := by simp
    rw [e1]
    refine g1.trans ?_
    simpa using g2
  have z : ∀ {x : Nat} {c : List Value}, c.length = n → (⟨some x, c, c.length⟩ : Ent) ∈ R → RdSl ⟨[], ro1⟩ ⟨some (Addr.mk x 0 none), n, n⟩ c := by
    intro x c hl hm
    exact rr _ hm _ _ (OwnsSl.at0 1 (by simp [hl]) (by omega) nm)
  clear hw17 hwR hperm g1
  refine ⟨fun h => ∃ (s : SV) (e : Ent) (cs : List CW) (ro' : Addr → Option Value), h = ⟨(own ++ [bsZ r1]) ++ bsE r17 { S0 with W := s } :: [e], ro'⟩ ∧ (∀ a v, ro1 a = some v → ro' a = some v) ∧ OwnsSl 3 s e (cs.flatMap cwV) ∧ cs.map (·.1) = List.replicate n ⟨0, 0, List.replicate n 0⟩ ∧ (∀ c ∈ cs, CW.ok ro' c) ∧ (∀ a v, ro' a = some v → e.id ≠ some a.block),
    ⟨fun m i h => ∃ (k : Nat) (s : SV) (e : Ent) (cs : List CW) (ro' : Addr → Option Value), i = (k : Int) ∧ k ≤ n ∧ m = n - k ∧ h = ⟨(own ++ [bsZ r1]) ++ bsE r17 { S0 with W := s } :: [e], ro'⟩ ∧ (∀ a v, ro1 a = some v → ro' a = some v) ∧ OwnsSl 3 s e (cs.flatMap cwV) ∧ cs.map (·.1) = List.replicate k ⟨0, 0, List.replicate n 0⟩ ∧ (∀ c ∈ cs, CW.ok ro' c) ∧ (∀ a v, ro' a = some v → e.id ≠ some a.block),
      ⟨n, _, by rw [hS0] at G0; exact G0, 0, zV, _, [], ro1, rfl, Nat.zero_le _, rfl, by rw [hS0], fun _ _ h => h, OwnsSl.nil 3, rfl, by simp, fun _ _ _ h => by cases h⟩, ?_⟩, ?_⟩
  · rintro m _ i _ ⟨k, s, e, cs, ro', rfl, hk', rfl, rfl, mm, ho, hcs, hok, hfe⟩
    refine VIf_dec (fun hlt => ?_) (fun hge => gi ?_)
    rotate_left
    · obtain rfl : k = n := by omega
      exact ⟨s, e, cs, ro', rfl, mm, ho, hcs, hok, hfe⟩
    have hol := ho.rows_len cwV_len (by decide)
    have hcl : cs.length = k := by rw [← List.length_map (f := fun c : CW => c.1), hcs]; simp
    refine rS (bsE r17 { S0 with W := s }) (by simp) rfl rfl ⟨c8.1, c8.2.1, c8.2.2.1, c8.2.2.2, fun r28 f28 => ?_⟩
    simp only [Int.toNat_natCast]
    rw [repl_ints]
    intro r30 _
    refine appVC_of (s2 := ⟨some (Addr.mk r30 0 none), 1, 1⟩) grows_rws (ys := cwV (⟨0, 0, List.replicate n 0⟩, ⟨some (Addr.mk r28 0 none), n, n⟩)) (by simp [cwV]) ?_ ⟨rfl, rfl, rfl, trivial⟩ (by simp) (A := (own ++ [bsZ r1]) ++ [bsE r17 { S0 with W := s }]) (C := [⟨some r28, ints (List.replicate n 0), (ints (List.replicate n 0)).length⟩]) (en := e) (ro := ro') (Gh.drop (by simp)) ho (by simp only; omega) (fun s' e' o' l' _ _ hid => ?_)
    · intro j v hv
      rw [add_mk']
      exact rdo ⟨some r30, cwV (⟨0, 0, List.replicate n 0⟩, ⟨some (Addr.mk r28 0 none), n, n⟩), 3⟩ (by simp [cwV]) rfl (by simpa using hv)
    rw [show ((own ++ [bsZ r1]) ++ [bsE r17 { S0 with W := s }]) ++ e' :: [⟨some r28, ints (List.replicate n 0), (ints (List.replicate n 0)).length⟩] = (own ++ [bsZ r1]) ++ bsE r17 { S0 with W := s } :: (e' :: [⟨some r28, ints (List.replicate n 0), (ints (List.replicate n 0)).length⟩]) by simp]
    refine bs_w0 { S0 with W := s' } rfl rfl ?_
    have hfr : ∀ a v, ro' a = some v → (⟨some r28, ints (List.replicate n 0), (ints (List.replicate n 0)).length⟩ : Ent).id ≠ some a.block := fun a v hv hid => f28.2 a v hv (Option.some.inj hid).symm
    have g := Gh.freeze ((own ++ [bsZ r1]) ++ bsE r17 { S0 with W := s' } :: [e']) [] ro' ⟨some r28, ints (List.replicate n 0), (ints (List.replicate n 0)).length⟩ hfr
    refine ⟨⟨by omega, by omega⟩, n - (k + 1), by omega, _, by simpa using g, k + 1, s', e', cs ++ [(⟨0, 0, List.replicate n 0⟩, ⟨some (Addr.mk r28 0 none), n, n⟩)], _, by omega, by omega, rfl, by simp, fun a v h => frozen_mono hfr a v (mm a v h), by simpa [List.flatMap_append] using o', ?_, fun c hc => ?_, ?_⟩
    · rw [List.map_append, hcs, List.replicate_succ']; rfl
    · rcases List.mem_append.1 hc with hc | hc
      · exact (hok c hc).up (frozen_mono hfr)
      · simp only [List.mem_singleton] at hc
        subst hc
        exact ⟨RdSl.frozen (OwnsSl.at0 1 (by simp) (by simp) nm), by simp; omega⟩
    · intro a v hv hb
      unfold Go.Eng.frozen at hv
      have hne : e'.id ≠ some r28 := fun h => by
        rcases hid _ h with h1 | h1
        · exact f28.1 e (by simp) h1
        · exact h1.1 ⟨some r28, ints (List.replicate n 0), (ints (List.replicate n 0)).length⟩ (by simp) rfl
      split at hv
      · rename_i hc
        exact hne (hb.trans hc.1.symm)
      · rcases hid _ hb with h1 | h1
        · exact hfe a v hv h1
        · exact h1.2 a v hv rfl
  rintro _ _ ⟨s, e, cs, ro', rfl, mm, ho, hcs, hok, hfe⟩
  obtain ⟨S1, hS1⟩ : ∃ S1 : BS, S1 = { S0 with W := s } := ⟨_, rfl⟩
  rw [← hS1]
  refine bd_get (r := r17) (a0 := S1.W) (a1 := S1.A) (a2 := S1.V) (a3 := S1.R) (a4 := S1.F) (a5 := S1.L) (a6 := S1.M) (a7 := S1.S) (by simp [bsE]) ?_
  refine bd_put (r := r1) (a0 := S1.W) (a1 := S1.A) (a2 := S1.V) (a3 := S1.R) (a4 := S1.F) (a5 := S1.L) (a6 := S1.M) (a7 := S1.S) (z0 := zV) (z1 := zV) (z2 := zV) (z3 := zV) (z4 := zV) (z5 := zV) (z6 := zV) (z7 := zV) own [bsE r17 S1, e] (by simp [bsZ]) ?_
  refine bd_get (r := r1) (a0 := S1.W) (a1 := S1.A) (a2 := S1.V) (a3 := S1.R) (a4 := S1.F) (a5 := S1.L) (a6 := S1.M) (a7 := S1.S) (by simp) ?_
  have mf := frozen_mono hfe
  have mA : ∀ a v, ro1 a = some v → Go.Eng.frozen e ro' a = some v := fun a v h => mf a v (mm a v h)
  refine ⟨⟨own, Go.Eng.frozen e ro'⟩, ?_, hk S1 _ (fun a v h => mA a v (mo1 a v h)) ?_⟩
  · have g := Gh.freeze (own ++ bdE r1 S1.W S1.A S1.V S1.R S1.F S1.L S1.M S1.S :: [bsE r17 S1]) [] ro' e hfe
    have g2 : Gh ⟨(own ++ bdE r1 S1.W S1.A S1.V S1.R S1.F S1.L S1.M S1.S :: [bsE r17 S1]) ++ [], Go.Eng.frozen e ro'⟩ ⟨own, Go.Eng.frozen e ro'⟩ := Gh.drop (by simp)
    have := g.trans g2
    simpa using this
  have idle : ∀ (p : Nat) h, (b0 n).hands[p]? = some h → h = shand0 := fun p h hp => (List.eq_of_mem_replicate (List.mem_of_getElem? hp))
  have zz : ∀ {x : Nat} {c : List Value}, c.length = n → (⟨some x, c, c.length⟩ : Ent) ∈ R → RdSl ⟨[], Go.Eng.frozen e ro'⟩ ⟨some (Addr.mk x 0 none), n, n⟩ c := fun hl hm => (z hl hm).mono (by simp) mA
  rw [hS1, hS0]
  refine ⟨⟨cs, hcs, RdRows.frozen ho, fun c hc => (hok c hc).up mf⟩, ?_, ⟨List.replicate n 0, by simp, zz (by simp) (by rw [hR]; simp), fun p h hp hz => absurd (by rw [idle p h hp]; rfl) hz⟩, ⟨List.replicate n false, by simp, zz (by simp) (by rw [hR]; simp), fun p h hp hz => absurd (by rw [idle p h hp]; rfl) hz⟩, ⟨List.replicate n zV, by simp, zz (by simp) (by rw [hR]; simp), fun p h hp hz => ?_⟩, ⟨List.replicate n zV, by simp, zz (by simp) (by rw [hR]; simp), fun p h hp hz => ?_⟩, ⟨List.replicate n zV, by simp, zz (by simp) (by rw [hR]; simp), fun p h hp hz => ?_⟩, ⟨List.replicate n zV, by simp, zz (by simp) (by rw [hR]; simp), fun p h hp hz => ?_⟩⟩
  · have e1 : (b0 n).hands.map (·.ln) = List.replicate n 0 := by simp [b0, shand0]
    rw [e1]; exact zz (by simp) (by rw [hR]; simp)
  · rw [idle p h hp] at hz; rcases hz with hz | hz <;> cases hz
  · rw [idle p h hp] at hz; rcases hz with hz | hz <;> cases hz
  · rw [idle p h hp] at hz; rcases hz with hz | hz <;> cases hz
  · rw [idle p h hp] at hz; cases hz
end Go.Proofs.YtnecppjgcbhnaaaDoor
