import Derived.Test.YtogbkgimpkaemaaFo
import Derived.Test.YtogbkgimpkaemaaEngJ
namespace Go.Proofs.Ytogbkgimpkaemaa
open Go.Eng
set_option maxRecDepth 20000
set_option maxHeartbeats 1600000 in
theorem fifoOrder_c {n : Int} {st : SV} {rows : List (SV × List Int)} {ro : Addr → Option Value} {post : Value → H → Prop} (hr : RdRowsOf ⟨[], ro⟩ st rows) (hpost : ∀ h, post (.bool true) h) : SemCall Try.prog 4 (List.toArray [.int .i64 n, .slice st.a st.len st.cap]) ⟨[], ro⟩ post := by
  refine f4_call _ _ _ post (fifo_fact_c ⟨true, rfl, VIf_nb (nomatch ·) (fun _ => ?_)⟩)
  refine fq_new_c (fun hn => ⟨_, _, rfl, VIf_nerr (fun _ => ?_) (nomatch ·)⟩) (fun p L hs n1 n4 => ⟨_, none, rfl, VIf_nnil ?_⟩)
  · refine join_b (h := ⟨[], ro⟩) true (VIf_dec (fun _ => gi ⟨rfl, rfl⟩) (fun h => gi ⟨rfl, ?_⟩)) (ret (hpost _))
    exact decide_eq_true (by omega)
  obtain ⟨N, rfl⟩ : ∃ N : Nat, n = (N : Int) := ⟨n.toNat, by omega⟩
  rw [Int.toNat_natCast] at hs
  have hr : ∀ {X}, RdRowsOf ⟨X, ro⟩ st rows := fun {X} => hr.mono (by simp) (fun _ _ h => h)
  let Q : Int → SV → SV → SV → H → Prop := fun puts sb sg sw h => ∃ f hh ch hi ti bb gg ww eb eg ew L, FqAt p N f hh L ∧ FInv N f hh ch hi ti ∧ FOr N f hh ch hi bb gg ∧ puts = (bb.length : Int) ∧ gg.length ≤ 400 ∧ gg.length = ww.length ∧ h = ⟨[] ++ (L ++ [eb, eg, ew]), ro⟩ ∧ OwnsSl 1 sb eb (ints bb) ∧ OwnsSl 1 sg eg (ints gg) ∧ OwnsSl 1 sw ew (ints ww)
  refine ⟨fun puts sb sg sw h => Q puts sb sg sw h, ⟨fun m puts sb sg sw i h => ∃ k : Nat, i = (k : Int) ∧ k ≤ 400 ∧ m = 400 - k ∧ ∃ f hh ch hi ti bb gg ww eb eg ew L, FqAt p N f hh L ∧ FInv N f hh ch hi ti ∧ FOr N f hh ch hi bb gg ∧ puts = (bb.length : Int) ∧ gg.length ≤ k ∧ gg.length = ww.length ∧ h = ⟨[] ++ (L ++ [eb, eg, ew]), ro⟩ ∧ OwnsSl 1 sb eb (ints bb) ∧ OwnsSl 1 sg eg (ints gg) ∧ OwnsSl 1 sw ew (ints ww),
    ⟨_, ⟨[] ++ (L ++ [⟨none, [], 0⟩, ⟨none, [], 0⟩, ⟨none, [], 0⟩]), ro⟩, ?_, 0, rfl, by omega, rfl, _, _, _, _, _, [], [], [], _, _, _, L, hs, FInv.start N, FOr.start N, rfl, by simp, rfl, rfl, OwnsSl.nil 1, OwnsSl.nil 1, OwnsSl.nil 1⟩, ?_⟩, ?_⟩
  · have g1 := Gh.phantom ([] ++ L) [] ro 0
    have g2 := Gh.phantom ([] ++ L) [⟨none, [], 0⟩] ro 0
    have g3 := Gh.phantom ([] ++ L) [⟨none, [], 0⟩, ⟨none, [], 0⟩] ro 0
    simpa using (g1.trans g2).trans g3
  · rintro m _ puts sb sg sw i _ ⟨k, rfl, hk, rfl, f, hh, ch, hi, ti, bb, gg, ww, eb, eg, ew, L, hs, I, O, rfl, hgl, hgw, rfl, ob, og, ow⟩
    have hnext : ∀ {m' : Nat} {P : Prop}, k < 400 → (In64 ((k : Int) + 1) ∧ P ↔ P) := fun {m' P} hk4 => ⟨fun h => h.2, fun h => ⟨⟨by omega, by omega⟩, h⟩⟩
    refine join_b (h := ⟨[] ++ (L ++ [eb, eg, ew]), ro⟩) (decide ((k : Int) < ((st.len : Nat) : Int) ∧ k < 400)) (VIf_dec (fun h1 => gi ⟨rfl, ?_⟩) (fun h1 => gi ⟨rfl, (decide_eq_false (fun h => h1 h.1)).symm⟩)) (VIf_dec (fun hc => ?_) (fun hc => gi ⟨f, hh, ch, hi, ti, bb, gg, ww, eb, eg, ew, L, hs, I, O, rfl, by omega, hgw, rfl, ob, og, ow⟩))
    · exact decide_eq_decide.2 ⟨fun h => ⟨h1, by omega⟩, fun h => by omega⟩
    obtain ⟨hc1, hc2⟩ := hc
    refine hr.idx (by omega) hc1 (fun t xs hx ht => ?_)
    have tl := ht.len
    rw [ints_length] at tl
    have ht : ∀ {X}, RdSl ⟨X, ro⟩ t (ints xs) := fun {X} => RdSl.mono (h := ⟨[], ro⟩) ((hr (X := [])).2 (t, xs) (List.mem_of_getElem? hx)) (by simp) (fun _ _ h => h)
    -- to be begun?
    refine join_b (h := ⟨[] ++ (L ++ [eb, eg, ew]), ro⟩) (decide (xs.length = 2 ∧ (0 ≤ gI xs 0 ∧ gI xs 0 ≤ (N : Int) - 1))) (VIf_eq (fun h2 => idx0 ht (by omega) ⟨⟨by omega, by omega⟩, in_c ⟨_, rfl, gi ⟨rfl, ?_⟩⟩⟩) (fun h2 => gi ⟨rfl, (decide_eq_false (fun h => h2 (by omega))).symm⟩)) ?_
    · exact decide_eq_decide.2 ⟨fun h => ⟨by omega, h⟩, fun h => h.2⟩
    refine ⟨fun puts sb h => ∃ f hh ch hi ti bb eb L, FqAt p N f hh L ∧ FInv N f hh ch hi ti ∧ FOr N f hh ch hi bb gg ∧ puts = (bb.length : Int) ∧ h = ⟨[] ++ (L ++ [eb, eg, ew]), ro⟩ ∧ OwnsSl 1 sb eb (ints bb), VIf_dec (fun hb => ?_) (fun _ => gi ⟨f, hh, ch, hi, ti, bb, eb, L, hs, I, O, rfl, rfl, ob⟩), ?_⟩
    · obtain ⟨hb2, hb0, hbn⟩ := hb
      obtain ⟨q, hq⟩ : ∃ q : Nat, gI xs 0 = (q : Int) := ⟨(gI xs 0).toNat, by omega⟩
      refine idx1 ht (by omega) (VIf_dec (fun hneg => idx0 ht (by omega) ?_) (fun hpos => idx0 ht (by omega) ?_))
      · rw [hq]
        refine fq_get_c [] [eb, eg, ew] rfl hs (fun L' hs' => ⟨_, rfl, ?_⟩)
        rcases fGet_cases N hh q with ⟨e1, _⟩ | ⟨e1, _, e3⟩
        · rw [e1] at hs'
          exact gi ⟨f, hh, ch, hi, ti, bb, eb, L', hs', I, O, rfl, rfl, ob⟩
        · rw [e1] at hs'
          rw [Int.toNat_natCast] at e3
          exact gi ⟨f, _, ch, hi, ti, bb, eb, L', hs', I.get, O.get e3, rfl, rfl, ob⟩
      · rw [hq]
        have bl := O.bl
        have hm := I.m
        refine fq_put_c [] [eb, eg, ew] rfl hs hm (fun L' hs' => ⟨_, rfl, VIf_err (fun hz => ?_) (fun hnz => ?_)⟩)
        · rcases fPut_cases N f hh q (bb.length : Int) ⟨by omega, by omega⟩ with ⟨_, _, e3⟩ | ⟨e1, e2, _, e4⟩
          · exact absurd hz e3
          rw [e1] at hs'
          rw [Int.toNat_natCast] at e4
          have lb := ob.sl_len
          rw [ints_length] at lb
          refine idx0 ht (by omega) ?_
          rw [hq]
          refine app_row grows_ints (vs := [.int .i64 (q : Int)]) rfl ⟨rfl, trivial⟩ ([] ++ L') eb [eg, ew] (by simp) ob (by omega) (fun sb2 eb2 ob2 _ => ⟨⟨by omega, by omega⟩, gi ⟨_, _, ch, hi, ti, bb ++ [(q : Int)], eb2, L', hs', I.put _ e2, ?_, by simp, by simp, by simpa [ints, intV] using ob2⟩⟩)
          exact O.put I (by omega) e4 _ (by omega) e2
        · rcases fPut_cases N f hh q (bb.length : Int) ⟨by omega, by omega⟩ with ⟨e1, e2, _⟩ | ⟨e1, _⟩
          · rw [e1, e2] at hs'
            exact gi ⟨f, hh, ch, hi, ti, bb, eb, L', hs', I, O, rfl, rfl, ob⟩
          · rw [e1] at hnz; exact absurd rfl hnz
    clear hs I O ob
    rintro _ puts sb _ ⟨f, hh, ch, hi, ti, bb, eb, L, hs, I, O, rfl, rfl, ob⟩
    refine VIf_eq (fun h1 => idx0 ht (by omega) ?_) (fun h1 => ⟨⟨by omega, by omega⟩, 400 - (k + 1), by omega, gi ⟨k + 1, by omega, by omega, rfl, f, hh, ch, hi, ti, bb, gg, ww, eb, eg, ew, L, hs, I, O, rfl, by omega, hgw, rfl, ob, og, ow⟩⟩)
    have same : ∀ {L' : List Ent} {x : Int} {f' hh' : Nat → Int} {ch' hi' ti'}, FqAt p N f' hh' L' → FInv N f' hh' ch' hi' ti' → FOr N f' hh' ch' hi' bb gg → f4_J1 (fun m puts sb sg sw i h => ∃ k : Nat, i = (k : Int) ∧ k ≤ 400 ∧ m = 400 - k ∧ ∃ f hh ch hi ti bb gg ww eb eg ew L, FqAt p N f hh L ∧ FInv N f hh ch hi ti ∧ FOr N f hh ch hi bb gg ∧ puts = (bb.length : Int) ∧ gg.length ≤ k ∧ gg.length = ww.length ∧ h = ⟨[] ++ (L ++ [eb, eg, ew]), ro⟩ ∧ OwnsSl 1 sb eb (ints bb) ∧ OwnsSl 1 sg eg (ints gg) ∧ OwnsSl 1 sw ew (ints ww)) (400 - k) sg sw (k : Int) t (bb.length : Int) sb x false ⟨[] ++ (L' ++ [eb, eg, ew]), ro⟩ := by
      intro L' x f' hh' ch' hi' ti' h1 h2 h3
      exact VIf_b (nomatch ·) (fun _ => ⟨⟨by omega, by omega⟩, 400 - (k + 1), by omega, gi ⟨k + 1, by omega, by omega, rfl, f', hh', ch', hi', ti', bb, gg, ww, eb, eg, ew, L', h1, h2, h3, rfl, by omega, hgw, rfl, ob, og, ow⟩⟩)
    by_cases hq : 0 ≤ gI xs 0 ∧ gI xs 0 ≤ (N : Int) - 1
    · obtain ⟨q, hq2⟩ : ∃ q : Nat, gI xs 0 = (q : Int) := ⟨(gI xs 0).toNat, by omega⟩
      have hqN : q < N := by omega
      rw [hq2]
      refine fq_step_c [] [eb, eg, ew] rfl hs hqN (I.ok hqN) (fun L' hs' => ?_)
      unfold fStepE at hs' ⊢
      by_cases ha : hh (q * 5 + 0) = 0
      · rw [if_pos ha] at hs' ⊢
        exact ⟨false, 0, _, rfl, join_b (h := ⟨[] ++ (L' ++ [eb, eg, ew]), ro⟩) false (VIf_err (fun h => absurd h (show (7 : Int) ≠ 0 by decide)) (fun _ => gi ⟨rfl, rfl⟩)) (same hs' I O)⟩
      rw [if_neg ha] at hs' ⊢
      obtain ⟨ch', hi', ti', I', T, hf, hsame⟩ := I.step hqN ha
      refine ⟨_, _, none, rfl, ?_⟩
      have hj : ∀ {x : Int} {d : Bool}, decide (d = true ∧ x ≥ 0) = (d && decide (x ≥ 0)) := fun {x d} => by cases d <;> simp
      refine join_b (h := ⟨[] ++ (L' ++ [eb, eg, ew]), ro⟩) (decide ((fStep f hh q).2.2.1 = true ∧ (fStep f hh q).2.2.2 ≥ 0)) (VIf_nil (VIf_b (fun hd => gi ⟨rfl, ?_⟩) (fun hd => gi ⟨rfl, ?_⟩))) ?_
      · rw [hd]; exact decide_eq_decide.2 ⟨fun h => ⟨rfl, h⟩, fun h => h.2⟩
      · rw [hd]; exact (decide_eq_false (by simp)).symm
      rcases O.step I hqN T hf hsame with ⟨hd, hv, O'⟩ | ⟨hd, O'⟩
      · rw [decide_eq_true ⟨hd, hv⟩]
        have lg := og.sl_len
        have lw := ow.sl_len
        rw [ints_length] at lg lw
        refine VIf_b (fun _ => ?_) (nomatch ·)
        refine app_row grows_ints (vs := [.int .i64 (fStep f hh q).2.2.2]) rfl ⟨rfl, trivial⟩ ([] ++ L' ++ [eb]) eg [ew] (by simp) og (by omega) (fun sg2 eg2 og2 _ => idx0 ht (by omega) ?_)
        refine app_row grows_ints (vs := [.int .i64 (gI xs 0)]) rfl ⟨rfl, trivial⟩ ([] ++ L' ++ [eb, eg2]) ew [] (by simp) ow (by omega) (fun sw2 ew2 ow2 _ => ⟨⟨by omega, by omega⟩, 400 - (k + 1), by omega, gi ⟨k + 1, by omega, by omega, rfl, _, _, ch', hi', ti', bb, gg ++ [(fStep f hh q).2.2.2], ww ++ [gI xs 0], eb, eg2, ew2, L', hs', I', O', rfl, by simp; omega, by simp [hgw], by simp, ob, by simpa [ints, intV] using og2, by simpa [ints, intV] using ow2⟩⟩)
      · rw [decide_eq_false hd]
        exact same hs' I' O'
    · refine fq_out_c hs (fun e he => by simp [he]) hq ⟨false, 0, _, rfl, join_b (h := ⟨[] ++ (L ++ [eb, eg, ew]), ro⟩) false (VIf_err (fun h => absurd h (show (1 : Int) ≠ 0 by decide)) (fun _ => gi ⟨rfl, rfl⟩)) (same hs I O)⟩
  -- at the end
  rintro _ puts sb sg sw _ ⟨f, hh, ch, hi, ti, bb, gg, ww, eb, eg, ew, L, hs, I, O, rfl, hgl, hgw, rfl, ob, og, ow⟩
  have rb : RdSl ⟨[] ++ (L ++ [eb, eg, ew]), ro⟩ sb (ints bb) := RdSl.of_own (e := eb) (by simp) ob
  have rg : RdSl ⟨[] ++ (L ++ [eb, eg, ew]), ro⟩ sg (ints gg) := RdSl.of_own (e := eg) (by simp) og
  have rw_ : RdSl ⟨[] ++ (L ++ [eb, eg, ew]), ro⟩ sw (ints ww) := RdSl.of_own (e := ew) (by simp) ow
  have lg := og.sl_len
  rw [ints_length] at lg
  have bl := O.bl
  have hm := I.m
  refine ⟨fun h => True, ⟨fun m i h => ∃ x : Nat, i = (x : Int) ∧ x ≤ gg.length ∧ m = gg.length - x ∧ h = ⟨[] ++ (L ++ [eb, eg, ew]), ro⟩, ⟨_, gi ⟨0, rfl, by omega, rfl, rfl⟩⟩, ?_⟩, fun _ _ _ => ret (hpost _)⟩
  rintro m _ i _ ⟨x, rfl, hx, rfl, rfl⟩
  refine VIf_dec (fun hi' => ?_) (fun _ => gi trivial)
  have hxl : x < gg.length := by omega
  obtain ⟨z0, z1, z2⟩ := O.fine I (gI_ex hxl)
  refine ⟨fun h => h = ⟨[] ++ (L ++ [eb, eg, ew]), ro⟩, idxI rg (by omega) (by omega) ?_, fun _ _ h => by subst h; exact ⟨⟨by omega, by omega⟩, gg.length - (x + 1), by omega, gi ⟨x + 1, by omega, by omega, rfl, rfl⟩⟩⟩
  rw [Int.toNat_natCast]
  refine ⟨⟨by omega, by omega⟩, in_c ⟨_, rfl, VIf_not (fun h => absurd (by omega) h) (fun _ => ?_)⟩⟩
  refine ⟨fun h => h = ⟨[] ++ (L ++ [eb, eg, ew]), ro⟩, ⟨fun m i h => ∃ y : Nat, i = (y : Int) ∧ y ≤ x ∧ m = x - y ∧ h = ⟨[] ++ (L ++ [eb, eg, ew]), ro⟩, ⟨_, gi ⟨0, rfl, by omega, rfl, rfl⟩⟩, ?_⟩, fun _ _ h => gi h⟩
  rintro m _ i _ ⟨y, rfl, hy, rfl, rfl⟩
  refine VIf_dec (fun hyx => ?_) (fun _ => gi rfl)
  have hyl : y < gg.length := by omega
  obtain ⟨w0, w1, _⟩ := O.fine I (gI_ex hyl)
  obtain ⟨d1, d2⟩ := z2 y _ (by omega) (gI_ex hyl)
  refine join_b (h := ⟨[] ++ (L ++ [eb, eg, ew]), ro⟩) false (idxI rg (by omega) (by omega) (idxI rg (by omega) (by omega) ?_)) (VIf_b (nomatch ·) (fun _ => ⟨⟨by omega, by omega⟩, x - (y + 1), by omega, gi ⟨y + 1, by omega, by omega, rfl, rfl⟩⟩))
  rw [Int.toNat_natCast, Int.toNat_natCast]
  refine VIf_eq (fun h => absurd h d1) (fun _ => idxI rw_ (by omega) (by omega) (idxI rw_ (by omega) (by omega) (VIf_eq (fun _ => idxI rg (by omega) (by omega) ?_) (fun _ => gi ⟨rfl, rfl⟩))))
  rw [Int.toNat_natCast]
  refine idxI rb z0 z1 (idxI rg (by omega) (by omega) ?_)
  rw [Int.toNat_natCast]
  refine idxI rb w0 w1 (VIf_eq (fun he => idxI rg (by omega) (by omega) (idxI rg (by omega) (by omega) (gi ⟨rfl, ?_⟩))) (fun _ => gi ⟨rfl, rfl⟩))
  rw [Int.toNat_natCast, Int.toNat_natCast]
  have := d2 (by rw [gI_ex (by omega : (gI gg x).toNat < bb.length), gI_ex (by omega : (gI gg y).toNat < bb.length), he])
  exact decide_eq_false this
end Go.Proofs.Ytogbkgimpkaemaa
