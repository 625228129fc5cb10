import Derived.Test.YtiaopgnnibidlaaDoorRa
namespace Go.Proofs.YtiaopgnnibidlaaDoor
open Go.Eng
set_option maxRecDepth 20000
/-! ### a new deque of the document -/
theorem mkn {own l : List Ent} {ro : Addr → Option Value} {N : Int} {K : Nat → H → Prop} (hw : Wf ⟨own ++ l, ro⟩) (h : ∀ r, Wf ⟨own ++ (l ++ [⟨some r, ints (List.replicate N.toNat 0), N.toNat⟩]), ro⟩ → K r ⟨own ++ (l ++ [⟨some r, ints (List.replicate N.toNat 0), N.toNat⟩]), ro⟩) :
    H.new ⟨own ++ l, ro⟩ (repl N.toNat [Value.int .i64 0]) K := by
  intro r f
  have e : (⟨some r, repl N.toNat [Value.int .i64 0], (repl N.toNat [Value.int .i64 0]).length⟩ : Ent) = ⟨some r, ints (List.replicate N.toNat 0), N.toNat⟩ := by rw [repl_ints, ints_length, List.length_replicate]
  show K r ⟨own ++ l ++ [⟨some r, repl N.toNat [Value.int .i64 0], (repl N.toNat [Value.int .i64 0]).length⟩], ro⟩
  rw [e, List.append_assoc]
  refine h r ?_
  rw [← List.append_assoc]
  exact hw.add f rfl
theorem rm_rep (n : Nat) : rm n (fun _ => (0 : Int)) = List.replicate n 0 := by
  refine List.ext_getElem? fun k => ?_
  by_cases hk : k < n
  · rw [rm_get _ hk, List.getElem?_replicate, if_pos hk]
  · rw [List.getElem?_eq_none (by rw [rm_len]; omega), List.getElem?_eq_none (by simp; omega)]
theorem dr_leaf {own rows : List Ent} {ro : Addr → Option Value} {r1 rp ra rt rb rv n : Nat} {post : Value → H → Prop} (hn : n ≤ 4) (hk : ∀ P A T B V ro', (∀ a v, ro a = some v → ro' a = some v) → DqR ro' n P A T B V (fun _ => 0) (fun _ => 0) (fun _ => 0) (fun _ => 0) (fun _ => 0) → post (.agg (List.toArray (drC P 0 0 A T B V))) ⟨own, ro'⟩)
    (hw : Wf ⟨own ++ drE r1 ⟨none, 0, 0⟩ 0 0 ⟨none, 0, 0⟩ ⟨none, 0, 0⟩ ⟨none, 0, 0⟩ ⟨none, 0, 0⟩ :: rows, ro⟩)
    (mp : ⟨some rp, ints (List.replicate 8 0), 8⟩ ∈ rows) (ma : ⟨some ra, ints (List.replicate n 0), n⟩ ∈ rows) (mt : ⟨some rt, ints (List.replicate n 0), n⟩ ∈ rows) (mb : ⟨some rb, ints (List.replicate n 0), n⟩ ∈ rows) (mv : ⟨some rv, ints (List.replicate n 0), n⟩ ∈ rows) :
    (drC ⟨some (Addr.mk rp 0 none), 8, 8⟩ 0 0 ⟨some (Addr.mk ra 0 none), n, n⟩ ⟨some (Addr.mk rt 0 none), n, n⟩ ⟨some (Addr.mk rb 0 none), n, n⟩ ⟨some (Addr.mk rv 0 none), n, n⟩).length = 7 ∧ (Program.underlying Tryd.prog 49).isSome = true ∧ H.wr ⟨own ++ drE r1 ⟨none, 0, 0⟩ 0 0 ⟨none, 0, 0⟩ ⟨none, 0, 0⟩ ⟨none, 0, 0⟩ ⟨none, 0, 0⟩ :: rows, ro⟩ (Addr.mk r1 0 none) (drC ⟨some (Addr.mk rp 0 none), 8, 8⟩ 0 0 ⟨some (Addr.mk ra 0 none), n, n⟩ ⟨some (Addr.mk rt 0 none), n, n⟩ ⟨some (Addr.mk rb 0 none), n, n⟩ ⟨some (Addr.mk rv 0 none), n, n⟩) fun h =>
    ∃ y0 : SV, H.rd h (Addr.add (Addr.mk r1 0 none) 0) (.slice y0.a y0.len y0.cap) ∧ ∃ y1 : Int, H.rd h (Addr.add (Addr.mk r1 0 none) 1) (.int .i64 y1) ∧ ∃ y2 : Int, H.rd h (Addr.add (Addr.mk r1 0 none) 2) (.int .i64 y2) ∧ ∃ y3 : SV, H.rd h (Addr.add (Addr.mk r1 0 none) 3) (.slice y3.a y3.len y3.cap) ∧ ∃ y4 : SV, H.rd h (Addr.add (Addr.mk r1 0 none) 4) (.slice y4.a y4.len y4.cap) ∧ ∃ y5 : SV, H.rd h (Addr.add (Addr.mk r1 0 none) 5) (.slice y5.a y5.len y5.cap) ∧ ∃ y6 : SV, H.rd h (Addr.add (Addr.mk r1 0 none) 6) (.slice y6.a y6.len y6.cap) ∧ VRet h (.agg (List.toArray (drC y0 y1 y2 y3 y4 y5 y6))) post := by
  refine dr_put (a0 := ⟨some (Addr.mk rp 0 none), 8, 8⟩) (a1 := 0) (a2 := 0) (a3 := ⟨some (Addr.mk ra 0 none), n, n⟩) (a4 := ⟨some (Addr.mk rt 0 none), n, n⟩) (a5 := ⟨some (Addr.mk rb 0 none), n, n⟩) (a6 := ⟨some (Addr.mk rv 0 none), n, n⟩) (z0 := ⟨none, 0, 0⟩) (z1 := 0) (z2 := 0) (z3 := ⟨none, 0, 0⟩) (z4 := ⟨none, 0, 0⟩) (z5 := ⟨none, 0, 0⟩) (z6 := ⟨none, 0, 0⟩) own rows rfl ?_
  refine dr_get (a0 := ⟨some (Addr.mk rp 0 none), 8, 8⟩) (a1 := 0) (a2 := 0) (a3 := ⟨some (Addr.mk ra 0 none), n, n⟩) (a4 := ⟨some (Addr.mk rt 0 none), n, n⟩) (a5 := ⟨some (Addr.mk rb 0 none), n, n⟩) (a6 := ⟨some (Addr.mk rv 0 none), n, n⟩) (by simp) ?_
  obtain ⟨ro', g, m, r⟩ := frzE (own := own) rows ro (hw.sub (List.Sublist.append_left (List.sublist_cons_self _ _) _))
  have z : ∀ {x N : Nat}, N ≤ 8 → ⟨some x, ints (List.replicate N 0), N⟩ ∈ rows → RdSl ⟨[], ro'⟩ ⟨some (Addr.mk x 0 none), N, N⟩ (ints (rm N fun _ => 0)) := by
    intro x N hN hm
    rw [rm_rep]
    exact r _ hm _ _ (OwnsSl.at0 1 (by simp [ints]) (by omega) (by simp only [maxLen]; omega))
  exact ⟨⟨own, ro'⟩, (Gh.drop (List.Sublist.append_left (List.sublist_cons_self _ _) _)).trans g, hk _ _ _ _ _ ro' m ⟨z (by omega) mp, z (by omega) ma, z (by omega) mt, z (by omega) mb, z (by omega) mv⟩⟩
set_option maxHeartbeats 20000000 in
theorem ref_dnew_c {n : Nat} {own : List Ent} {ro : Addr → Option Value} {post : Value → H → Prop} (hn : n ≤ 4) (hk : ∀ P A T B V ro', (∀ a v, ro a = some v → ro' a = some v) → DqR ro' n P A T B V (fun _ => 0) (fun _ => 0) (fun _ => 0) (fun _ => 0) (fun _ => 0) → post (.agg (List.toArray (drC P 0 0 A T B V))) ⟨own, ro'⟩) :
    SemCall Tryd.prog 17 (List.toArray [.int .i64 (n : Int)]) ⟨own, ro⟩ post := by
  refine SemCall.wf (fun hw => ?_)
  refine f17_call _ _ post ?_
  intro r1 f1
  have hw1 : Wf ⟨own ++ [drE r1 ⟨none, 0, 0⟩ 0 0 ⟨none, 0, 0⟩ ⟨none, 0, 0⟩ ⟨none, 0, 0⟩ ⟨none, 0, 0⟩], ro⟩ := hw.add f1 rfl
  have cn : 0 ≤ (n : Int) ∧ (n : Int) ≤ (n : Int) ∧ ((8 : Nat) : Int) * (n : Int) ≤ 140737488355328 ∧ (n : Int) ≤ 1000000000 := ⟨by omega, Int.le_refl _, by omega, by omega⟩
  have c8 : 0 ≤ (8 : Int) ∧ (8 : Int) ≤ (8 : Int) ∧ ((8 : Nat) : Int) * (8 : Int) ≤ 140737488355328 ∧ (8 : Int) ≤ 1000000000 := by decide
  show _
  have st : ∀ {K : H → Prop}, K ⟨own ++ [drE r1 ⟨none, 0, 0⟩ 0 0 ⟨none, 0, 0⟩ ⟨none, 0, 0⟩ ⟨none, 0, 0⟩ ⟨none, 0, 0⟩], ro⟩ → K ⟨own ++ [⟨some r1, [.slice none 0 0, .int .i64 0, .int .i64 0, .slice none 0 0, .slice none 0 0, .slice none 0 0, .slice none 0 0], 7⟩], ro⟩ := fun h => h
  repeat' first
    | exact dr_leaf hn hk (by assumption) (by simp) (by simp) (by simp) (by simp) (by simp)
    | refine ⟨c8.1, c8.2.1, c8.2.2.1, c8.2.2.2, mkn (own := own) (by assumption) (fun r hw => ?_)⟩
    | refine ⟨cn.1, cn.2.1, cn.2.2.1, cn.2.2.2, mkn (own := own) (by assumption) (fun r hw => ?_)⟩
    | refine ⟨?_, ?_⟩
end Go.Proofs.YtiaopgnnibidlaaDoor
