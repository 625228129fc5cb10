import Derived.Test.YtnecppjgcbhnaaaSr
namespace Go.Proofs.Ytnecppjgcbhnaaa
open Go.Eng
/-! ### all looks stand in one row, walked -/
theorem grows_rows : Grows Try.prog 36 22 1 := ⟨rfl, rfl, by decide, by decide, ⟨_, rfl, rfl, ⟨rfl, trivial⟩⟩⟩
/-- the board and what is noted of it -/
def SR (p : Nat) (ro : Addr → Option Value) (n : Int) (sb sw sr ss sh lk fr to : SV) (i : Int) (h : H) : Prop :=
  ∃ (L : List Ent) (b : Board) (ro' : Addr → Option Value) (W : WT) (bg wn : List Int) (wr : List Bool) (sc : List Int) (hs lks : List SV) (hd looks : List (List Int)) (frs tos : List Int) (eb ew er es eh el ef et : Ent) (xs : List Ent),
    (∀ a v, ro a = some v → ro' a = some v) ∧ h = ⟨L ++ ([eb, ew, er, es, eh, el, ef, et] ++ xs), ro'⟩ ∧ BoardAt p b L ro' ∧ RowI b n.toNat i.toNat W bg wn wr sc hd looks frs tos ∧ 0 ≤ i ∧ i ≤ 300 ∧
    OwnsSl 1 sb eb (ints bg) ∧ OwnsSl 1 sw ew (ints wn) ∧ OwnsSl 1 sr er (wr.map Value.bool) ∧ OwnsSl 1 ss es (ints sc) ∧ OwnsSl 1 sh eh (hs.map svV) ∧ OwnsSl 1 lk el (lks.map svV) ∧ OwnsSl 1 fr ef (ints frs) ∧ OwnsSl 1 to et (ints tos) ∧ OwEach xs hs hd ∧ OwEach xs lks looks ∧ (looks.length : Int) ≤ i
theorem intCast_toNat_succ {i : Int} (h : 0 ≤ i) : (i + 1).toNat = i.toNat + 1 := by omega
set_option maxHeartbeats 1600000 in
theorem snapRow_c {n : Int} {st : SV} {rows : List (SV × List Int)} {ro : Addr → Option Value} {post : Value → H → Prop} (hr : RdRowsOf ⟨[], ro⟩ st rows) (hpost : ∀ h, post (.bool true) h) :
    SemCall Try.prog 6 (List.toArray [.int .i64 n, .slice st.a st.len st.cap]) ⟨[], ro⟩ post := by
  refine f6_call _ _ _ post ?_
  refine snap_fact_c (fun ro0 m0 => ⟨_, rfl, VIf_nb (nomatch ·) (fun _ => ?_)⟩)
  refine board_new_c (fun hc => ⟨_, _, rfl, VIf_nerr (fun _ => ?_) (nomatch ·)⟩) (fun p L ro1 m1 hs c0 c1 => ⟨_, none, rfl, VIf_nnil ?_⟩)
  · exact join_or (ret (by rw [decide_eq_true (show n < 1 ∨ n > 4 by omega)]; exact hpost _))
  refine ⟨by omega, by omega, by omega, by omega, fun rb _ => ⟨by omega, by omega, by omega, by omega, fun rw' _ => ⟨by omega, by omega, by omega, by omega, fun rr _ => ⟨by omega, by omega, by omega, by omega, fun rs _ => ⟨by omega, by omega, by omega, by omega, fun rh _ => ?_⟩⟩⟩⟩⟩
  have hnn : ((n.toNat : Nat) : Int) = n := by omega
  have eb1 : repl n.toNat [Value.bool false] = (List.replicate n.toNat false).map Value.bool := by rw [svs_flat]; exact repl_rows (f := fun x => [Value.bool x]) false _
  have es1 : repl n.toNat [Value.slice none 0 0] = (List.replicate n.toNat (⟨none, 0, 0⟩ : SV)).map svV := by rw [svs_flat]; exact repl_rows (f := fun x => [svV x]) (⟨none, 0, 0⟩ : SV) _
  rw [repl_ints, eb1, es1]
  have own0 : ∀ {vs : List Value} {r : Nat}, vs.length = n.toNat → OwnsSl 1 ⟨some (Addr.mk r 0 none), n.toNat, n.toNat⟩ ⟨some r, vs, vs.length⟩ vs := fun hv => OwnsSl.at0 1 (by omega) (by omega) (by simp only [maxLen]; omega)
  refine ⟨fun lk fr to h => ∃ i, SR p ro n ⟨some (Addr.mk rb 0 none), n.toNat, n.toNat⟩ ⟨some (Addr.mk rw' 0 none), n.toNat, n.toNat⟩ ⟨some (Addr.mk rr 0 none), n.toNat, n.toNat⟩ ⟨some (Addr.mk rs 0 none), n.toNat, n.toNat⟩ ⟨some (Addr.mk rh 0 none), n.toNat, n.toNat⟩ lk fr to i h,
    ⟨fun k lk fr to i h => SR p ro n ⟨some (Addr.mk rb 0 none), n.toNat, n.toNat⟩ ⟨some (Addr.mk rw' 0 none), n.toNat, n.toNat⟩ ⟨some (Addr.mk rr 0 none), n.toNat, n.toNat⟩ ⟨some (Addr.mk rs 0 none), n.toNat, n.toNat⟩ ⟨some (Addr.mk rh 0 none), n.toNat, n.toNat⟩ lk fr to i h ∧ k = (300 - i).toNat, ⟨300, ?_⟩, ?_⟩, ?_⟩
  · have g := fun (own : List Ent) => Gh.phantom own [] ro1 0
    simp only [List.append_nil] at g
    refine ⟨_, ((g _).trans (g _)).trans ((g _).trans (g _)), ⟨L, _, ro1, _, _, _, _, _, List.replicate n.toNat ⟨none, 0, 0⟩, [], _, _, _, _, ⟨some rb, ints (List.replicate n.toNat 0), (ints (List.replicate n.toNat 0)).length⟩, ⟨some rw', ints (List.replicate n.toNat 0), (ints (List.replicate n.toNat 0)).length⟩, ⟨some rr, (List.replicate n.toNat false).map Value.bool, ((List.replicate n.toNat false).map Value.bool).length⟩, ⟨some rs, ints (List.replicate n.toNat 0), (ints (List.replicate n.toNat 0)).length⟩, ⟨some rh, (List.replicate n.toNat (⟨none, 0, 0⟩ : SV)).map svV, ((List.replicate n.toNat (⟨none, 0, 0⟩ : SV)).map svV).length⟩, ⟨none, [], 0⟩, ⟨none, [], 0⟩, ⟨none, [], 0⟩, [⟨none, [], 0⟩], fun a v h => m1 a v (m0 a v h), by simp, hs, RowI.start (by omega) (by omega), by omega, by omega, own0 (by simp), own0 (by simp), own0 (by simp), own0 (by simp), own0 (by simp), OwnsSl.nil 1, OwnsSl.nil 1, OwnsSl.nil 1, ⟨by simp, fun j s l a b => ?_⟩, ⟨rfl, by simp⟩, by simp⟩, rfl⟩
    rw [List.getElem?_replicate] at a b
    split at a
    · rename_i hj
      rw [if_pos hj] at b
      cases a; cases b
      exact ⟨_, by simp, OwnsSl.nil 1⟩
    · cases a
  · clear hs
    rintro k _ lk fr to i h ⟨⟨L, b, ro', W, bg, wn, wr, sc, hsv, lks, hd, looks, frs, tos, eb, ew, er, es, eh, el, ef, et, xs, mr, rfl, hB, hI, hi0, hi1, ob, ow, or', os, oh, ol, of', ot, hh, hl, hc⟩, rfl⟩
    have hr : ∀ {own ro'}, (∀ a v, ro a = some v → ro' a = some v) → RdRowsOf ⟨own, ro'⟩ st rows := fun h => hr.mono (by simp) h
    refine join_and (VIf_dec (fun hi => ?_) (fun _ => gi ⟨i, L, b, ro', W, bg, wn, wr, sc, hsv, lks, hd, looks, frs, tos, eb, ew, er, es, eh, el, ef, et, xs, mr, rfl, hB, hI, hi0, hi1, ob, ow, or', os, oh, ol, of', ot, hh, hl, hc⟩))
    have fin : ∀ lk fr to h, SR p ro n ⟨some (Addr.mk rb 0 none), n.toNat, n.toNat⟩ ⟨some (Addr.mk rw' 0 none), n.toNat, n.toNat⟩ ⟨some (Addr.mk rr 0 none), n.toNat, n.toNat⟩ ⟨some (Addr.mk rs 0 none), n.toNat, n.toNat⟩ ⟨some (Addr.mk rh 0 none), n.toNat, n.toNat⟩ lk fr to (i + 1) h →
        (In64 (i + 1) ∧ ∃ m26, m26 < (300 - i).toNat ∧ ∃ h2, Gh h h2 ∧ SR p ro n ⟨some (Addr.mk rb 0 none), n.toNat, n.toNat⟩ ⟨some (Addr.mk rw' 0 none), n.toNat, n.toNat⟩ ⟨some (Addr.mk rr 0 none), n.toNat, n.toNat⟩ ⟨some (Addr.mk rs 0 none), n.toNat, n.toNat⟩ ⟨some (Addr.mk rh 0 none), n.toNat, n.toNat⟩ lk fr to (i + 1) h2 ∧ m26 = (300 - (i + 1)).toNat) := fun lk fr to h hU => ⟨⟨by omega, by omega⟩, _, by omega, gi ⟨hU, rfl⟩⟩
    refine ⟨fun lk fr to h => SR p ro n ⟨some (Addr.mk rb 0 none), n.toNat, n.toNat⟩ ⟨some (Addr.mk rw' 0 none), n.toNat, n.toNat⟩ ⟨some (Addr.mk rr 0 none), n.toNat, n.toNat⟩ ⟨some (Addr.mk rs 0 none), n.toNat, n.toNat⟩ ⟨some (Addr.mk rh 0 none), n.toNat, n.toNat⟩ lk fr to (i + 1) h, ?_, fun _ lk fr to h hU => fin lk fr to h hU⟩
    clear fin
    refine (hr mr).idx hi0 hi.1 fun t ts ht _ => ?_
    have htr : ∀ {own ro'}, (∀ a v, ro a = some v → ro' a = some v) → RdSl ⟨own, ro'⟩ t (ints ts) := fun {own ro'} h => (hr h).2 _ (List.mem_of_getElem? ht)
    refine ⟨fun c h => h = ⟨L ++ ([eb, ew, er, es, eh, el, ef, et] ++ xs), ro'⟩ ∧ (c = true → (t.len : Int) = 2 ∧ ∃ x0, ts[(0 : Int).toNat]? = some x0 ∧ 0 ≤ x0 ∧ x0 ≤ n - 1), VIf_eq (fun h2 => ?_) (fun _ => gi ⟨rfl, (nomatch ·)⟩), ?_⟩
    · refine (htr mr).idx (by omega) (by omega) fun x0 hx0 => ⟨⟨by omega, by omega⟩, in_i (fun hc => ⟨_, rfl, gi ⟨rfl, (nomatch ·)⟩⟩) (fun a0 a1 => ⟨_, rfl, gi ⟨rfl, fun _ => ⟨h2, x0, hx0, a0, a1⟩⟩⟩)⟩
    rintro _ c h ⟨rfl, hcond⟩
    have key : (n.toNat : Int) = n := hnn
    -- a hand begins
    refine ⟨fun h => SR p ro n ⟨some (Addr.mk rb 0 none), n.toNat, n.toNat⟩ ⟨some (Addr.mk rw' 0 none), n.toNat, n.toNat⟩ ⟨some (Addr.mk rr 0 none), n.toNat, n.toNat⟩ ⟨some (Addr.mk rs 0 none), n.toNat, n.toNat⟩ ⟨some (Addr.mk rh 0 none), n.toNat, n.toNat⟩ lk fr to i h, VIf_b (fun hct => ?_) (fun _ => gi ⟨L, b, ro', W, bg, wn, wr, sc, hsv, lks, hd, looks, frs, tos, eb, ew, er, es, eh, el, ef, et, xs, mr, rfl, hB, hI, hi0, hi1, ob, ow, or', os, oh, ol, of', ot, hh, hl, hc⟩), ?_⟩
    · obtain ⟨h2, x0, hx0, a0, a1⟩ := hcond hct
      have l1 := hI.l1
      have l2 := hI.l2
      have hpn : x0.toNat < n.toNat := by omega
      have hwnAt : At W i.toNat wn := fun r y hy => by
        have hrl := (List.getElem?_eq_some_iff.1 hy).1
        have := hI.cur r (by omega)
        rw [hy] at this; exact Option.some.inj this
      refine (htr mr).idx (by omega) (by omega) fun y0 hy0 => ?_
      rw [hx0] at hy0; cases hy0
      refine (htr mr).idx (by omega) (by omega) fun y1 hy1 => ?_
      refine VIf_dec (fun hy => ?_) (fun hy => ?_)
      · have rb' : ∀ {A X : List Ent} {ro2}, RdSl ⟨A ++ (eb :: X), ro2⟩ ⟨some (Addr.mk rb 0 none), n.toNat, n.toNat⟩ (ints bg) := fun {A X ro2} => RdSl.of_own (e := eb) (by simp) ob
        have bgb : ∀ z, bg[x0.toNat]? = some z → 0 ≤ z ∧ z ≤ 1000 := fun z hz => by
          have hlim := hI.lim x0.toNat
          have hpos := hI.pos x0.toNat
          have hmono := hI.mono 0 i.toNat x0.toNat (Nat.zero_le _) (Nat.le_refl _)
          obtain ⟨g, hg⟩ : ∃ g, b.hands[x0.toNat]? = some g := ⟨_, List.getElem?_eq_getElem (by have := hI.inv.h; omega)⟩
          by_cases g0 : g.ln = 0
          · have := hI.idle _ g hg g0; rw [hz] at this; cases this; omega
          · obtain ⟨s0, a⟩ := hI.act _ g hg g0
            by_cases hw : g.writes = true
            · have := (a.w1 hw).1; rw [hz] at this; cases this; omega
            · have := (a.w0 (by simpa using hw)).1; rw [hz] at this; cases this; omega
        refine rb'.idx a0 (by dsimp only; omega) fun z hz => ?_
        have hzb := bgb z hz
        refine ⟨⟨by omega, by omega⟩, snap_write_c [] ([eb, ew, er, es, eh, el, ef, et] ++ xs) rfl hB (fun L1 h1 => ⟨_, rfl, ?_⟩)⟩
        rcases hI.inv.begin x0 true (z + 1) with ⟨k, hk, e⟩ | ⟨_, _, g, hg, gl, e, hI'⟩ <;> rw [e] at h1 ⊢
        · exact VIf_err (fun h => absurd h hk) (fun _ => gi ⟨L1, b, ro', W, bg, wn, wr, sc, hsv, lks, hd, looks, frs, tos, eb, ew, er, es, eh, el, ef, et, xs, mr, rfl, h1, hI, hi0, hi1, ob, ow, or', os, oh, ol, of', ot, hh, hl, hc⟩)
        · have hzW : z = W i.toNat x0.toNat := by
            have := hI.idle _ g hg gl; rw [hz] at this; exact Option.some.inj this
          refine VIf_nil ?_
          refine rb'.idx a0 (by dsimp only; omega) fun z' hz' => ?_
          rw [hz] at hz'; cases hz'
          refine ⟨⟨by omega, by omega⟩, wr_at ([] ++ L1) eb ([ew, er, es, eh, el, ef, et] ++ xs) (by simp) ob a0 (by dsimp only; omega) (fun eb' ob' _ => ?_)⟩
          refine wr_atM (f := Value.bool) (fun _ => rfl) ([] ++ L1 ++ [eb', ew]) er ([es, eh, el, ef, et] ++ xs) (by simp) or' a0 (by dsimp only; omega) (fun er' or2 _ => ?_)
          refine gi ⟨L1, _, ro', W, _, wn, _, sc, hsv, lks, hd, looks, frs, tos, eb', ew, er', es, eh, el, ef, et, xs, mr, by simp, h1, hI.begin hg gl hpn hI' (fun _ => by omega) (by rw [if_pos rfl, hzW]) (by rw [if_pos rfl]) (l := wn) (by rw [if_pos rfl]) l2 hwnAt, hi0, hi1, ob', ow, or2, os, oh, ol, of', ot, hh, hl, hc⟩
      · refine snap_look_c [] ([eb, ew, er, es, eh, el, ef, et] ++ xs) rfl hB (fun L1 h1 => ⟨_, rfl, ?_⟩)
        rcases hI.inv.begin x0 false 0 with ⟨k, hk, e⟩ | ⟨_, _, g, hg, gl, e, hI'⟩ <;> rw [e] at h1 ⊢
        · exact VIf_err (fun h => absurd h hk) (fun _ => gi ⟨L1, b, ro', W, bg, wn, wr, sc, hsv, lks, hd, looks, frs, tos, eb, ew, er, es, eh, el, ef, et, xs, mr, rfl, h1, hI, hi0, hi1, ob, ow, or', os, oh, ol, of', ot, hh, hl, hc⟩)
        · refine VIf_nil ?_
          refine wr_atM (f := Value.bool) (fun _ => rfl) ([] ++ L1 ++ [eb, ew]) er ([es, eh, el, ef, et] ++ xs) (by simp) or' a0 (by dsimp only; omega) (fun er' or2 _ => ?_)
          refine wr_at ([] ++ L1 ++ [eb, ew, er']) es ([eh, el, ef, et] ++ xs) (by simp) os a0 (by dsimp only; omega) (fun es' os' _ => ?_)
          have rdw : RdSl ⟨([] ++ L1 ++ [eb, ew, er']) ++ es' :: ([eh, el, ef, et] ++ xs), ro'⟩ ⟨some (Addr.mk rw' 0 none), n.toNat, n.toNat⟩ (ints wn) := RdSl.of_own (e := ew) (by simp) ow
          refine clone_vc grows_ints rdw.rows (allOne_ints wn) (by dsimp only; omega) (fun s2 e2 o2 _ _ => ?_)
          refine wr_atM (f := svV) (fun _ => rfl) ([] ++ L1 ++ [eb, ew, er', es']) eh ([el, ef, et] ++ xs ++ [e2]) (by simp) oh a0 (by dsimp only; omega) (fun eh' oh' _ => ?_)
          refine gi ⟨L1, _, ro', W, bg, wn, _, _, _, lks, _, looks, frs, tos, eb, ew, er', es', eh', el, ef, et, xs ++ [e2], mr, by simp, h1, hI.begin hg gl hpn hI' (nomatch ·) (by rw [if_neg (by simp)]) (by rw [if_neg (by simp)]) (l := wn) (by rw [if_neg (by simp)]) l2 hwnAt, hi0, hi1, ob, ow, or2, ?_, oh', ol, of', ot, hh.set o2, hl.up _, hc⟩
          rw [show ((i.toNat : Nat) : Int) = i by omega]
          exact os'
    clear hB hI ob ow or' os oh ol of' ot hh hl hc mr hi0 hcond
    rintro _ h ⟨L, b, ro', W, bg, wn, wr, sc, hsv, lks, hd, looks, frs, tos, eb, ew, er, es, eh, el, ef, et, xs, mr, rfl, hB, hI, hi0, -, ob, ow, or', os, oh, ol, of', ot, hh, hl, hc⟩
    have tick : ∀ L1 (h1 : BoardAt p b L1 ro'), SR p ro n ⟨some (Addr.mk rb 0 none), n.toNat, n.toNat⟩ ⟨some (Addr.mk rw' 0 none), n.toNat, n.toNat⟩ ⟨some (Addr.mk rr 0 none), n.toNat, n.toNat⟩ ⟨some (Addr.mk rs 0 none), n.toNat, n.toNat⟩ ⟨some (Addr.mk rh 0 none), n.toNat, n.toNat⟩ lk fr to (i + 1) ⟨L1 ++ ([eb, ew, er, es, eh, el, ef, et] ++ xs), ro'⟩ := fun L1 h1 =>
      ⟨L1, b, ro', _, bg, wn, wr, sc, hsv, lks, hd, looks, frs, tos, eb, ew, er, es, eh, el, ef, et, xs, mr, rfl, h1, by rw [intCast_toNat_succ hi0]; exact hI.tick, by omega, by omega, ob, ow, or', os, oh, ol, of', ot, hh, hl, by omega⟩
    -- a step
    refine ⟨fun c h => h = ⟨L ++ ([eb, ew, er, es, eh, el, ef, et] ++ xs), ro'⟩ ∧ (c = false → (t.len : Int) = 1 ∧ ∃ x0, ts[(0 : Int).toNat]? = some x0 ∧ 0 ≤ x0 ∧ x0 ≤ n - 1), VIf_ne (fun _ => gi ⟨rfl, (nomatch ·)⟩) (fun h1 => ?_), ?_⟩
    · refine (htr mr).idx (by omega) (by omega) fun x0 hx0 => ⟨⟨by omega, by omega⟩, in_i (fun hc => ⟨_, rfl, gi ⟨rfl, (nomatch ·)⟩⟩) (fun a0 a1 => ⟨_, rfl, gi ⟨rfl, fun _ => ⟨h1, x0, hx0, a0, a1⟩⟩⟩)⟩
    rintro _ c h ⟨rfl, hcond⟩
    refine VIf_b (fun _ => gi (tick L hB)) (fun hcf => ?_)
    obtain ⟨h1, x0, hx0, a0, a1⟩ := hcond hcf
    refine (htr mr).idx (by omega) (by omega) fun y0 hy0 => ?_
    rw [hx0] at hy0; cases hy0
    have hII := hI.inv
    rw [show ((i.toNat : Nat) : Int) = i by omega] at hII
    refine snap_step_c [] ([eb, ew, er, es, eh, el, ef, et] ++ xs) rfl hB (hII.ok (by omega)) (fun L1 s1 e1 ro1 m1 h1 o1 => ⟨_, s1, _, rfl, ?_⟩)
    have mr1 : ∀ a v, ro a = some v → ro1 a = some v := fun a v h => m1 a v (mr a v h)
    have hpn : x0.toNat < n.toNat := by omega
    generalize hh0 : (⟨[] ++ (L1 ++ [e1] ++ ([eb, ew, er, es, eh, el, ef, et] ++ xs)), ro1⟩ : H) = h0
    have l1 := hI.l1; have l2 := hI.l2; have l3 := hI.l3; have l4 := hI.l4; have l5 := hI.l5
    have rB : RdSl h0 ⟨some (Addr.mk rb 0 none), n.toNat, n.toNat⟩ (ints bg) := by rw [← hh0]; exact RdSl.of_own (e := eb) (by simp) ob
    have rW : RdSl h0 ⟨some (Addr.mk rw' 0 none), n.toNat, n.toNat⟩ (ints wn) := by rw [← hh0]; exact RdSl.of_own (e := ew) (by simp) ow
    have rR : RdSl h0 ⟨some (Addr.mk rr 0 none), n.toNat, n.toNat⟩ (wr.map Value.bool) := by rw [← hh0]; exact RdSl.of_own (e := er) (by simp) or'
    have rHd : RdSl h0 ⟨some (Addr.mk rh 0 none), n.toNat, n.toNat⟩ (hsv.map svV) := by rw [← hh0]; exact RdSl.of_own (e := eh) (by simp) oh
    rcases hI.step x0 with ⟨b', k, e, W', hI'⟩ | ⟨b', _, _, e, hw, W', x, hx, hx0', hx1', hI'⟩ | ⟨b', _, _, l, e, hw, hl', s0, hs0, hst, d, hd', hdl, k1, k2, W', hI'⟩ <;> rw [e] at h1 o1 ⊢
    · refine ⟨fun c h => c = true ∧ h0 = h, VIf_nerr (fun _ => gi ⟨rfl, rfl⟩) (fun _ => gi ⟨rfl, rfl⟩), ?_⟩
      rintro _ c h ⟨rfl, rfl⟩
      refine VIf_b (fun _ => ?_) (nomatch ·)
      subst hh0
      exact ⟨_, Gh.drop (own' := L1 ++ ([eb, ew, er, es, eh, el, ef, et] ++ xs)) (by simp), L1, b', ro1, W', bg, wn, wr, sc, hsv, lks, hd, looks, frs, tos, eb, ew, er, es, eh, el, ef, et, xs, mr1, rfl, h1, by rw [intCast_toNat_succ hi0]; exact hI', by omega, by omega, ob, ow, or', os, oh, ol, of', ot, hh, hl, by omega⟩
    · refine ⟨fun c h => c = false ∧ h0 = h, VIf_nerr (fun h => absurd rfl h) (fun _ => gi ⟨rfl, rfl⟩), ?_⟩
      rintro _ c h ⟨rfl, rfl⟩
      refine VIf_b (nomatch ·) (fun _ => ?_)
      refine rR.idxM a0 (by dsimp only; omega) fun z hz => ?_
      rw [hw] at hz; cases hz
      refine VIf_b (fun _ => ?_) (nomatch ·)
      refine rW.idx a0 (by dsimp only; omega) fun z hz => ?_
      rw [hx] at hz; cases hz
      subst hh0
      refine ⟨⟨by omega, by omega⟩, wr_at ([] ++ (L1 ++ [e1]) ++ [eb]) ew ([er, es, eh, el, ef, et] ++ xs) (by simp) ow a0 (by dsimp only; omega) (fun ew' ow' _ => ?_)⟩
      exact ⟨_, Gh.drop (own' := L1 ++ ([eb, ew', er, es, eh, el, ef, et] ++ xs)) (by simp), L1, b', ro1, W', bg, _, wr, sc, hsv, lks, hd, looks, frs, tos, eb, ew', er, es, eh, el, ef, et, xs, mr1, rfl, h1, by rw [intCast_toNat_succ hi0]; exact hI', by omega, by omega, ob, ow', or', os, oh, ol, of', ot, hh, hl, by omega⟩
    · refine ⟨fun c h => c = false ∧ h0 = h, VIf_nerr (fun h => absurd rfl h) (fun _ => gi ⟨rfl, rfl⟩), ?_⟩
      rintro _ c h ⟨rfl, rfl⟩
      refine VIf_b (nomatch ·) (fun _ => ?_)
      refine rR.idxM a0 (by dsimp only; omega) fun z hz => ?_
      rw [hw] at hz; cases hz
      refine VIf_b (nomatch ·) (fun _ => ?_)
      have o1 : OwnsSl 1 s1 e1 (ints l) := o1
      have s1l := o1.sl_len
      rw [ints_length] at s1l
      have rS : RdSl h0 s1 (ints l) := by rw [← hh0]; exact RdSl.of_own (e := e1) (by simp) o1
      obtain ⟨sd, hsd⟩ : ∃ sd, hsv[x0.toNat]? = some sd := ⟨_, List.getElem?_eq_getElem (by rw [hh.1, l5]; exact hpn)⟩
      obtain ⟨ed, med, od⟩ := hh.2 _ sd d hsd hd'
      have sdl := od.sl_len
      rw [ints_length] at sdl
      have rD : RdSl h0 sd (ints d) := by rw [← hh0]; exact RdSl.of_own (e := ed) (by simp [med]) od
      refine ⟨fun c h => c = false ∧ h0 = h, VIf_ne (fun h => absurd (by omega) h) (fun _ => ?_), ?_⟩
      · refine rHd.idxM a0 (by dsimp only; omega) fun z hz => gi ⟨?_, rfl⟩
        rw [hsd] at hz; cases hz
        have : ((sd.len : Nat) : Int) = n := by omega
        simp [this]
      rintro _ c h ⟨rfl, rfl⟩
      refine VIf_b (nomatch ·) (fun _ => ?_)
      refine ⟨fun h => h0 = h, ⟨fun k q h => h0 = h ∧ 0 ≤ q ∧ q ≤ n ∧ k = (n - q).toNat, ⟨_, gi ⟨rfl, by omega, by omega, rfl⟩⟩, ?_⟩, ?_⟩
      · rintro k _ q h ⟨rfl, q0, q1, rfl⟩
        refine VIf_dec (fun hq => ?_) (fun _ => gi rfl)
        refine join_b (h := h0) false ?_ (VIf_b (nomatch ·) (fun _ => ⟨⟨by omega, by omega⟩, _, ?_, gi ⟨rfl, by omega, by omega, rfl⟩⟩))
        · refine rS.idx q0 (by omega) fun u hu => ?_
          refine rHd.idxM a0 (by dsimp only; omega) fun z hz => ?_
          rw [hsd] at hz; cases hz
          refine rD.idx q0 (by omega) fun v hv => ?_
          have := k1 _ u v hu hv
          refine VIf_dec (fun h => by omega) (fun _ => ?_)
          refine rS.idx q0 (by omega) fun u' hu' => ?_
          refine rB.idx q0 (by dsimp only; omega) fun y hy => gi ⟨rfl, decide_eq_false ?_⟩
          have := k2 _ u' y hu' hy
          omega
        · omega
      rintro _ h rfl
      subst hh0
      have loo := hl.1
      have l6 := hI.l6; have l7 := hI.l7
      have oll := ol.sl_len; have ofl := of'.sl_len; have otl := ot.sl_len
      rw [List.length_map] at oll
      rw [ints_length] at ofl otl
      refine app_row grows_rows (vs := [svV s1]) rfl ⟨rfl, trivial⟩ ([] ++ (L1 ++ [e1]) ++ [eb, ew, er, es, eh]) el ([ef, et] ++ xs) (by simp) ol (by omega) (fun s2 el' ol' _ => ?_)
      have rSc : RdSl ⟨([] ++ (L1 ++ [e1]) ++ [eb, ew, er, es, eh]) ++ el' :: ([ef, et] ++ xs), ro1⟩ ⟨some (Addr.mk rs 0 none), n.toNat, n.toNat⟩ (ints sc) := RdSl.of_own (e := es) (by simp) os
      refine rSc.idx a0 (by dsimp only; omega) fun z hz => ?_
      rw [hs0] at hz; cases hz
      refine app_row grows_ints (vs := [.int .i64 (s0 : Int)]) rfl ⟨rfl, trivial⟩ ([] ++ (L1 ++ [e1]) ++ [eb, ew, er, es, eh, el']) ef ([et] ++ xs) (by simp) of' (by omega) (fun s3 ef' of2 _ => ?_)
      refine app_row grows_ints (vs := [.int .i64 i]) rfl ⟨rfl, trivial⟩ ([] ++ (L1 ++ [e1]) ++ [eb, ew, er, es, eh, el', ef']) et xs (by simp) ot (by omega) (fun s4 et' ot2 _ => ?_)
      refine ⟨⟨L1 ++ ([eb, ew, er, es, eh, el', ef', et'] ++ (xs ++ [e1])), ro1⟩, Gh.perm ?_, L1, b', ro1, W', bg, wn, wr, sc, hsv, lks ++ [s1], hd, looks ++ [l], frs ++ [(s0 : Int)], tos ++ [i], eb, ew, er, es, eh, el', ef', et', xs ++ [e1], mr1, rfl, h1, ?_, by omega, by omega, ob, ow, or', os, oh, ?_, ?_, ?_, hh.up _, hl.app o1, by simp; omega⟩
      · simp only [List.nil_append, List.append_assoc]
        refine List.Perm.append_left _ ?_
        have := List.perm_append_comm (l₁ := [eb, ew, er, es, eh, el', ef', et'] ++ xs) (l₂ := [e1])
        simpa using this
      · rw [intCast_toNat_succ hi0]
        rw [show ((i.toNat : Nat) : Int) = i by omega] at hI'
        exact hI'
      · simpa using ol'
      · simpa [ints, intV] using of2
      · simpa [ints, intV] using ot2
  -- any two looks
  rintro _ lk fr to h ⟨i, L, b, ro', W, bg, wn, wr, sc, hsv, lks, hd, looks, frs, tos, eb, ew, er, es, eh, el, ef, et, xs, mr, rfl, hB, hI, hi0, hi1, ob, ow, or', os, oh, ol, of', ot, hh, hl, hc⟩
  generalize hh0 : (⟨L ++ ([eb, ew, er, es, eh, el, ef, et] ++ xs), ro'⟩ : H) = h0
  have rL : RdSl h0 lk (lks.map svV) := by rw [← hh0]; exact RdSl.of_own (e := el) (by simp) ol
  have rF : RdSl h0 fr (ints frs) := by rw [← hh0]; exact RdSl.of_own (e := ef) (by simp) of'
  have rT : RdSl h0 to (ints tos) := by rw [← hh0]; exact RdSl.of_own (e := et) (by simp) ot
  have oll := ol.sl_len; have ofl := of'.sl_len; have otl := ot.sl_len
  rw [List.length_map, hl.1] at oll
  rw [ints_length] at ofl otl
  have l6 := hI.l6; have l7 := hI.l7
  have get : ∀ (x : Nat), x < looks.length → ∃ s l, lks[x]? = some s ∧ looks[x]? = some l ∧ RdSl h0 s (ints l) ∧ s.len = l.length ∧ l.length = n.toNat := fun x hx => by
    obtain ⟨l, hl1⟩ : ∃ l, looks[x]? = some l := ⟨_, List.getElem?_eq_getElem hx⟩
    obtain ⟨s, hs1⟩ : ∃ s, lks[x]? = some s := ⟨_, List.getElem?_eq_getElem (by rw [hl.1]; exact hx)⟩
    obtain ⟨e, me, oe⟩ := hl.2 x s l hs1 hl1
    refine ⟨s, l, hs1, hl1, by rw [← hh0]; exact RdSl.of_own (e := e) (by simp [me]) oe, by have := oe.sl_len; rw [ints_length] at this; exact this, (hI.look x l hl1).1⟩
  clear ol of' ot ob ow or' os oh hB hh
  refine ⟨fun _ => True, ⟨fun k x h => h0 = h ∧ 0 ≤ x ∧ x ≤ looks.length ∧ k = (looks.length - x).toNat, ⟨_, gi ⟨rfl, by omega, by omega, rfl⟩⟩, ?_⟩, fun _ h _ => ret (hpost h)⟩
  rintro k _ x h ⟨rfl, x0, x1, rfl⟩
  refine VIf_dec (fun hx => ?_) (fun _ => gi trivial)
  obtain ⟨sx, a, hsx, hax, ra, la, na⟩ := get x.toNat (by omega)
  refine ⟨fun h => h0 = h, ⟨fun h => h0 = h, ⟨fun k y h => h0 = h ∧ 0 ≤ y ∧ y ≤ looks.length ∧ k = (looks.length - y).toNat, ⟨_, gi ⟨rfl, by omega, by omega, rfl⟩⟩, ?_⟩, fun _ h hh => gi hh⟩, ?_⟩
  · rintro k _ y h ⟨rfl, y0, y1, rfl⟩
    refine VIf_dec (fun hy => ?_) (fun _ => gi rfl)
    obtain ⟨sy, c, hsy, hcy, rc, lc, nc⟩ := get y.toNat (by omega)
    obtain ⟨two1, two2⟩ := hI.two hax hcy
    refine ⟨fun h => h0 = h, ⟨fun less more h => h0 = h ∧ (less = true → ∃ (r : Nat) (u v : Int), a[r]? = some u ∧ c[r]? = some v ∧ u < v) ∧ (more = true → ∃ (r : Nat) (u v : Int), a[r]? = some u ∧ c[r]? = some v ∧ u > v),
      ⟨fun k less more q h => (h0 = h ∧ (less = true → ∃ (r : Nat) (u v : Int), a[r]? = some u ∧ c[r]? = some v ∧ u < v) ∧ (more = true → ∃ (r : Nat) (u v : Int), a[r]? = some u ∧ c[r]? = some v ∧ u > v)) ∧ 0 ≤ q ∧ q ≤ n ∧ k = (n - q).toNat, ⟨_, gi ⟨⟨rfl, (nomatch ·), (nomatch ·)⟩, by omega, by omega, rfl⟩⟩, ?_⟩, ?_⟩, ?_⟩
    · rintro k _ less more q h ⟨⟨rfl, hls, hmo⟩, q0, q1, rfl⟩
      refine VIf_dec (fun hq => ?_) (fun _ => gi ⟨rfl, hls, hmo⟩)
      refine ⟨fun less h => h0 = h ∧ (less = true → ∃ (r : Nat) (u v : Int), a[r]? = some u ∧ c[r]? = some v ∧ u < v), VIf_b (fun h => gi ⟨rfl, fun _ => hls h⟩) (fun _ => ?_), ?_⟩
      · refine rL.idxM x0 (by omega) fun z hz => ?_
        rw [hsx] at hz; cases hz
        refine ra.idx q0 (by omega) fun u hu => ?_
        refine rL.idxM y0 (by omega) fun z hz => ?_
        rw [hsy] at hz; cases hz
        refine rc.idx q0 (by omega) fun v hv => gi ⟨rfl, fun h => ⟨_, u, v, hu, hv, of_decide_eq_true h⟩⟩
      rintro _ less' h ⟨rfl, hls'⟩
      refine ⟨fun more h => h0 = h ∧ (more = true → ∃ (r : Nat) (u v : Int), a[r]? = some u ∧ c[r]? = some v ∧ u > v), VIf_b (fun h => gi ⟨rfl, fun _ => hmo h⟩) (fun _ => ?_), ?_⟩
      · refine rL.idxM x0 (by omega) fun z hz => ?_
        rw [hsx] at hz; cases hz
        refine ra.idx q0 (by omega) fun u hu => ?_
        refine rL.idxM y0 (by omega) fun z hz => ?_
        rw [hsy] at hz; cases hz
        refine rc.idx q0 (by omega) fun v hv => gi ⟨rfl, fun h => ⟨_, u, v, hu, hv, of_decide_eq_true h⟩⟩
      rintro _ more' h ⟨rfl, hmo'⟩
      exact ⟨⟨by omega, by omega⟩, (n - (q + 1)).toNat, by omega, gi ⟨⟨rfl, hls', hmo'⟩, by omega, by omega, rfl⟩⟩
    · rintro _ less more h ⟨rfl, hls, hmo⟩
      obtain ⟨tt, htt⟩ : ∃ tt, tos[x.toNat]? = some tt := ⟨_, List.getElem?_eq_getElem (by omega)⟩
      obtain ⟨ff, hff⟩ : ∃ ff, frs[y.toNat]? = some ff := ⟨_, List.getElem?_eq_getElem (by omega)⟩
      have nomore : tt < ff → more = false := fun hlt => by
        cases more with
        | false => rfl
        | true =>
          obtain ⟨r, u, v, hu, hv, huv⟩ := hmo rfl
          have := two2 tt ff htt hff hlt r u v hu hv
          omega
      have both : less = true → more = true → False := fun h1 h2 => by
        obtain ⟨r, u, v, hu, hv, huv⟩ := hls h1
        obtain ⟨r', u', v', hu', hv', huv'⟩ := hmo h2
        rcases two1 with t1 | t1
        · have := t1 r' u' v' hu' hv'; omega
        · have := t1 r u v hu hv; omega
      refine ⟨fun c h => h0 = h ∧ c = false, VIf_b (fun hl1 => VIf_b (fun hm1 => (both hl1 hm1).elim) (fun _ => ?_)) (fun _ => ?_), ?_⟩
      · refine rT.idx x0 (by omega) fun z hz => rF.idx y0 (by omega) fun w hw => ?_
        rw [htt] at hz; cases hz
        rw [hff] at hw; cases hw
        exact VIf_dec (fun hlt => gi ⟨rfl, nomore hlt⟩) (fun _ => gi ⟨rfl, rfl⟩)
      · refine rT.idx x0 (by omega) fun z hz => rF.idx y0 (by omega) fun w hw => ?_
        rw [htt] at hz; cases hz
        rw [hff] at hw; cases hw
        exact VIf_dec (fun hlt => gi ⟨rfl, nomore hlt⟩) (fun _ => gi ⟨rfl, rfl⟩)
      rintro _ c h ⟨rfl, rfl⟩
      exact VIf_b (nomatch ·) (fun _ => gi rfl)
    · rintro _ h rfl
      exact ⟨⟨by omega, by omega⟩, (looks.length - (y + 1)).toNat, by omega, gi ⟨rfl, by omega, by omega, rfl⟩⟩
  · rintro _ h rfl
    exact ⟨⟨by omega, by omega⟩, (looks.length - (x + 1)).toNat, by omega, gi ⟨rfl, by omega, by omega, rfl⟩⟩
end Go.Proofs.Ytnecppjgcbhnaaa
