import Derived.Test.YtnecppjgcbhnaaaDoorBf
namespace Go.Proofs.YtnecppjgcbhnaaaDoor
open Go.Eng
set_option maxRecDepth 20000
/-! ### what a board tells -/
theorem snap_at_c {p : Nat} {b : Board} {q : Int} {L own : List Ent} {ro : Addr → Option Value} {post : Value → H → Prop} (hs : BoardAt p b L ro) (hL : ∀ e ∈ L, e ∈ own)
    (h0 : ¬ (0 ≤ q ∧ q ≤ (b.hands.length : Int) - 1) → post (.int .i64 0) ⟨own, ro⟩) (h1 : ∀ (k : Nat) h, q = (k : Int) → b.hands[k]? = some h → post (.int .i64 h.ln) ⟨own, ro⟩) :
    SemCall Tryd.prog 34 (List.toArray [.pointer (some (Addr.mk p 0 none)), .int .i64 q]) ⟨own, ro⟩ post := by
  obtain ⟨bw, bh, n, c1, c2, ws, cs, rfl, hwd, hhd, hwl, hcl, n4, hwo, hco⟩ := hs
  have hbl : b.hands.length = n := by rw [hhd]; simpa using hcl
  refine f34_call _ _ _ post ?_
  simp only [f34_sem, add_mk', Option.some.injEq, exists_eq_left', Nat.zero_add, Nat.add_zero]
  have mB : boardE p bw bh n ∈ own := hL _ (by simp [boardL])
  have mH : (⟨some bh, cs.flatMap hcV, c2⟩ : Ent) ∈ own := hL _ (by simp [boardL])
  refine ⟨⟨some (Addr.mk bh 0 none), n, n⟩, rdo _ mB rfl rfl, ⟨by dsimp only; omega, by dsimp only; omega⟩, within_c ⟨_, rfl, VIf_nb (fun hc => ?_) (fun hc => ?_)⟩⟩
  · have hc := of_decide_eq_false hc
    dsimp only at hc
    exact ret (h0 (by omega))
  · have hc := of_decide_eq_true hc
    dsimp only at hc
    obtain ⟨k, rfl⟩ : ∃ k : Nat, q = (k : Int) := ⟨q.toNat, by omega⟩
    obtain ⟨c, hcc⟩ : ∃ c, cs[k]? = some c := ⟨_, List.getElem?_eq_getElem (by omega)⟩
    refine ⟨⟨some (Addr.mk bh 0 none), n, n⟩, rdo _ mB rfl rfl, Addr.mk bh 0 none, rfl, by omega, by dsimp only; omega, c.ln, ?_, ret (h1 k (HC.abs c) rfl (by rw [hhd, List.getElem?_map, hcc]; rfl))⟩
    simp only [add_mk', Nat.zero_add, Nat.add_zero, Int.toNat_natCast]
    exact rd_row hcV_len _ mH rfl rfl hcc (j := 0) rfl rfl
theorem snap_values_c {p : Nat} {b : Board} {L own : List Ent} {ro : Addr → Option Value} {post : Value → H → Prop} (hs : BoardAt p b L ro) (hL : ∀ e ∈ L, e ∈ own)
    (hk : ∀ s e, OwnsSl 1 s e (ints (b.words.map (·.value))) → post (.slice s.a s.len s.cap) ⟨own ++ [e], ro⟩) :
    SemCall Tryd.prog 33 (List.toArray [.pointer (some (Addr.mk p 0 none))]) ⟨own, ro⟩ post := by
  obtain ⟨bw, bh, n, c1, c2, ws, cs, rfl, hwd, hhd, hwl, hcl, n4, hwo, hco⟩ := hs
  refine f33_call _ _ post ?_
  simp only [f33_sem, add_mk', Option.some.injEq, exists_eq_left', Nat.zero_add, Nat.add_zero]
  have mB : boardE p bw bh n ∈ own := hL _ (by simp [boardL])
  have mW : (⟨some bw, ws.flatMap cwV, c1⟩ : Ent) ∈ own := hL _ (by simp [boardL])
  refine ⟨⟨some (Addr.mk bw 0 none), n, n⟩, rdo _ mB rfl rfl, ?_⟩
  refine ⟨fun s h => ∃ e, OwnsSl 1 s e (ints (b.words.map (·.value))) ∧ h = ⟨own ++ [e], ro⟩, ⟨fun m s i h => ∃ (k : Nat) (e : Ent), i = (k : Int) ∧ k ≤ n ∧ m = n - k ∧ OwnsSl 1 s e (ints ((b.words.take k).map (·.value))) ∧ h = ⟨own ++ [e], ro⟩, ⟨n, ⟨own ++ [⟨none, [], 0⟩], ro⟩, by simpa using Gh.phantom own [] ro 0, 0, _, rfl, Nat.zero_le _, rfl, OwnsSl.nil 1, rfl⟩, ?_⟩, ?_⟩
  rotate_left
  · rintro _ s _ ⟨e, ho, rfl⟩
    exact ret (hk s e ho)
  rintro m _ s i _ ⟨k, e, rfl, hkn, rfl, ho, rfl⟩
  have hwn : b.words.length = n := by rw [hwd]; simpa using hwl
  refine VIf_dec (fun hlt => ?_) (fun hge => gi ?_)
  rotate_left
  · dsimp only at hge
    obtain rfl : k = n := by omega
    rw [List.take_of_length_le (by omega)] at ho
    exact ⟨e, ho, rfl⟩
  dsimp only at hlt
  obtain ⟨w, hw⟩ : ∃ w, ws[k]? = some w := ⟨_, List.getElem?_eq_getElem (by omega)⟩
  have hbw : b.words[k]? = some w.1 := by rw [hwd, List.getElem?_map, hw]; rfl
  have htk := take_snoc hbw
  have hol := ho.sl_len
  rw [ints_length, List.length_map, List.length_take] at hol
  have mW2 : (⟨some bw, ws.flatMap cwV, c1⟩ : Ent) ∈ own ++ [e] := by simp [mW]
  refine ⟨Addr.mk bw 0 none, rfl, by omega, by dsimp only; omega, ?_⟩
  simp only [add_mk', Nat.zero_add, Nat.add_zero, Int.toNat_natCast]
  refine ⟨w.1.value, rd_row cwV_len _ mW2 rfl rfl hw (j := 0) rfl rfl, w.1.turn, rd_row cwV_len _ mW2 rfl rfl hw (j := 1) rfl rfl, w.2, rd_row cwV_len _ mW2 rfl rfl hw (j := 2) rfl rfl, fun r15 _ => ?_⟩
  refine ⟨rfl, rfl, wro (own ++ [e]) ⟨some r15, cwV (⟨0, 0, []⟩, ⟨none, 0, 0⟩), 3⟩ [] ⟨rfl, rfl, rfl, trivial⟩ (by simp [cwV]) rfl (by simp [cwV]) ?_⟩
  refine ⟨w.1.value, rdo ⟨some r15, cwV w, 3⟩ (by simp [spl, cwV]) rfl rfl, ?_⟩
  refine app_row grows_ints (vs := [.int .i64 w.1.value]) rfl ⟨rfl, trivial⟩ own e [⟨some r15, cwV w, 3⟩] (by simp [spl, cwV]) ho (by omega) (fun s' e' o' _ => ?_)
  refine ⟨⟨by omega, by omega⟩, n - (k + 1), by omega, ⟨own ++ [e'], ro⟩, Gh.drop (by simp), k + 1, e', by omega, by omega, rfl, ?_, rfl⟩
  rw [htk, List.map_append]
  simpa [ints, intV] using o'
/-! any step of the document's board -/
theorem snapStep_ok {b : Board} {q : Nat} {g : SHand} (hq : q < b.hands.length) (hg : b.hands[q]? = some g) (hz : g.ln ≠ 0) : (snapStep b q).2.2.2 = 0 := by
  unfold snapStep
  rw [if_neg (by omega), Int.toNat_natCast, hg]
  dsimp only
  rw [if_neg hz]
  unfold snapSaw
  repeat' split
  all_goals rfl
theorem SInv.begin' {b : Board} {n : Nat} {i : Int} (h : SInv b n i) (p : Int) (wr : Bool) (v : Int) : SInv (snapBegin b p wr v).1 n i := by
  rcases h.begin p wr v with ⟨k, hk, e⟩ | ⟨h0, h1, g, hh, hl, e, hI⟩
  · rw [e]; exact h
  · rw [e]; exact hI
theorem SInv.step' {b : Board} {n : Nat} {i : Int} (h : SInv b n i) (p : Int) : SInv (snapStep b p).1 n (i + 1) := by
  cases h.step p with
  | err k hk e => rw [e]; exact h.mono
  | first _ _ _ _ _ _ _ _ _ _ _ _ e hI => rw [e]; exact hI.mono
  | last _ _ _ _ _ _ _ _ _ _ _ _ e hI => rw [e]; exact hI.mono
  | again _ _ _ _ _ _ _ _ _ _ _ _ _ e hI => rw [e]; exact hI.mono
  | saw _ _ _ _ _ _ _ _ _ _ _ _ _ _ e hI => rw [e]; exact hI.mono
  | looked _ _ _ _ _ _ _ _ _ _ _ _ _ e hI => rw [e]; exact hI.mono
  | wrote _ _ _ _ _ _ _ _ e hI => rw [e]; exact hI
set_option maxHeartbeats 1000000 in
theorem ref_bstep_c {n : Nat} {q i : Int} {b : Board} {S : BS} {own : List Ent} {ro : Addr → Option Value} {post : Value → H → Prop} (hr : BdR ro n b S) (I : SInv b n i) (hi : i ≤ 1000)
    (hk : ∀ S' s' ro', (∀ a v, ro a = some v → ro' a = some v) → BdR ro' n (snapStep b q).1 S' → RdSl ⟨[], ro'⟩ s' (ints (snapStep b q).2.2.1) → post (bsQ (snapStep b q).2.1 s' (snapStep b q).2.2.2 S') ⟨own, ro'⟩) :
    SemCall Tryd.prog 31 (List.toArray [.agg (List.toArray (bsC S)), .int .i64 q]) ⟨own, ro⟩ post := by
  have id0 : ∀ a v, ro a = some v → ro a = some v := fun _ _ h => h
  have nil : ∀ ro : Addr → Option Value, RdSl ⟨[], ro⟩ zV (ints []) := fun ro => ⟨rfl, fun _ => rfl, fun b hb => by cases hb⟩
  have hbl := I.h
  have hwl := I.w
  have n4 := I.n4
  by_cases hin : ¬ (0 ≤ q ∧ q ≤ (n : Int) - 1)
  · have e : snapStep b q = (b, false, [], 1) := by unfold snapStep; rw [if_pos (by rw [hbl]; exact hin)]
    rw [e] at hk
    exact ref_bout_c hr hbl n4 hin (hk S zV ro id0 hr (nil ro))
  obtain ⟨k, rfl⟩ : ∃ k : Nat, q = (k : Int) := ⟨q.toNat, by clear hk; omega⟩
  have hkn : k < n := by clear hk; omega
  obtain ⟨g, hg⟩ : ∃ g, b.hands[k]? = some g := ⟨_, List.getElem?_eq_getElem (by clear hk; omega)⟩
  by_cases hz : g.ln = 0
  · have e : snapStep b k = (b, false, [], 7) := by unfold snapStep; rw [if_neg (by clear hk; omega), Int.toNat_natCast, hg]; dsimp only; rw [if_pos hz]
    rw [e] at hk
    exact ref_bidle_c hr hbl n4 hkn hg hz (hk S zV ro id0 hr (nil ro))
  have hgm := List.mem_of_getElem? hg
  obtain ⟨a1, a2, a3⟩ := I.s g hgm
  have mv := I.mv g hgm
  have two : g.ln = 2 → ∀ {w : SWord}, b.words[g.k.toNat]? = some w → SemCall Tryd.prog 31 (List.toArray [.agg (List.toArray (bsC S)), .int .i64 (k : Int)]) ⟨own, ro⟩ post := by
    intro hl w hw
    obtain ⟨e0, e1, e2, e3, e4, e5⟩ := a2 hl
    have n0 : g.ln ≠ 1 := by clear hk; omega
    have U : snapStep b k = if g.k + 1 = b.words.length then
          (if (seesGo g.first (g.last ++ [w]) 0 g.moved [] true).2.1 = true then
            snapSaw b k { g with k := 0, last := g.last ++ [w], moved := (seesGo g.first (g.last ++ [w]) 0 g.moved [] true).2.2 } (seesGo g.first (g.last ++ [w]) 0 g.moved [] true).1
          else ({ b with hands := b.hands.set k { g with k := 0, first := g.last ++ [w], last := [], moved := (seesGo g.first (g.last ++ [w]) 0 g.moved [] true).2.2 } }, false, [], 0))
        else ({ b with hands := b.hands.set k { g with k := g.k + 1, last := g.last ++ [w] } }, false, [], 0) := by
      unfold snapStep
      rw [if_neg (by clear hk; omega), Int.toNat_natCast, hg]
      dsimp only
      rw [if_neg hz, if_neg n0, if_pos hl, hw]
      rfl
    rw [hwl] at U
    refine ref_b2_c (y := { g with k := 0, last := g.last ++ [w], ln := 3, moved := (seesGo g.first (g.last ++ [w]) 0 g.moved [] true).1 }) hr hbl hwl n4 hkn hg hl e0 e1 e2 e3 e4 e5 hw rfl rfl rfl rfl (fun h1 S' ro' m hb => ?_) (fun h1 h2 S' ro' m hb => ?_) (fun h1 h2 h3 S' ro' m hb => ?_) (fun h1 h2 h3 S' s' ro' m hb hs => ?_)
    · rw [if_neg (by clear hk; omega)] at U
      rw [U] at hk
      exact hk S' zV ro' m hb (nil ro')
    · rw [if_pos h1, if_neg (by rw [h2]; decide)] at U
      rw [U] at hk
      exact hk S' zV ro' m hb (nil ro')
    · rw [if_pos h1, if_pos h2] at U
      unfold snapSaw at U
      rw [if_pos h3] at U
      rw [U] at hk
      exact hk S' zV ro' m hb (nil ro')
    · rw [if_pos h1, if_pos h2] at U
      unfold snapSaw at U
      rw [if_neg (by show ¬ g.writes = true; rw [h3]; decide)] at U
      rw [U] at hk
      exact hk S' s' ro' m hb hs
  cases I.step (k : Int) with
  | err j hj e => exact absurd (by rw [e] : (snapStep b k).2.2.2 = j) (by rw [snapStep_ok (by clear hk; omega) hg hz]; exact fun h => hj h.symm)
  | first h0 h1 h y w hh hl hw hk0 hk' hf hy e hI =>
    rw [Int.toNat_natCast, hg] at hh; cases hh
    rw [e] at hk
    rw [Int.toNat_natCast] at hk
    exact ref_b1_c hr hbl hwl n4 hkn hg hl hk0 hk' hf hw ⟨hy.1, hy.2.1, hy.2.2.1, hy.2.2.2.1, hy.2.2.2.2.1, hy.2.2.2.2.2.imp (fun h => ⟨h.1, h.2.1⟩) (fun h => ⟨h.1, h.2.1⟩)⟩ (fun S' ro' m hb => hk S' zV ro' m hb (nil ro'))
  | last h0 h1 h y w hh hl hw hk0 hk' hf hy e hI =>
    rw [Int.toNat_natCast, hg] at hh; cases hh
    exact two hl hw
  | again h0 h1 h y w hh hl hw hk0 hk' hf hgg hy e hI =>
    rw [Int.toNat_natCast, hg] at hh; cases hh
    exact two hl hw
  | saw h0 h1 h y w hh hl hw hk0 hk' hf hgg hwr hy e hI =>
    rw [Int.toNat_natCast, hg] at hh; cases hh
    exact two hl hw
  | looked h0 h1 h w hh hl hw hk0 hk' hf hgg hwr hsl e hI =>
    rw [Int.toNat_natCast, hg] at hh; cases hh
    exact two hl hw
  | wrote h0 h1 h w hh hl hw hwr e hI =>
    rw [Int.toNat_natCast, hg] at hh; cases hh
    rw [Int.toNat_natCast] at hw
    rw [e] at hk
    rw [Int.toNat_natCast] at hk
    have ht := I.t w (List.mem_of_getElem? hw)
    have hm := (I.l3 g hgm hl).1
    exact ref_b3_c hr hbl hwl n4 hkn hg hl hw ⟨ht.1, by clear hk; omega⟩ (by clear hk; omega) (fun S' ro' m hb => hk S' zV ro' m hb (nil ro'))
end Go.Proofs.YtnecppjgcbhnaaaDoor
