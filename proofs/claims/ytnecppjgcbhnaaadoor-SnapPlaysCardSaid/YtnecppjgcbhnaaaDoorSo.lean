import Derived.Test.YtnecppjgcbhnaaaDoorSn
namespace Go.Proofs.YtnecppjgcbhnaaaDoor
open Go.Eng
set_option maxRecDepth 20000
def seesGo : List SWord → List SWord → Nat → List Int → List Int → Bool → List Int × Bool × List Int
  | f :: fs, l :: ls, q, mv, out, same =>
    if f.turn ≠ l.turn then
      (if (mv[q]?).getD 0 + 1 = 2 then (l.seen, true, mv.set q ((mv[q]?).getD 0 + 1)) else seesGo fs ls (q + 1) (mv.set q ((mv[q]?).getD 0 + 1)) (out ++ [l.value]) false)
    else seesGo fs ls (q + 1) mv (out ++ [l.value]) same
  | _, _, _, mv, out, same => (out, same, mv)
theorem sees_c {bh o : Nat} {sf sl sm : SV} {fs ls : List CW} {mv : List Int} {own : List Ent} {ro : Addr → Option Value} {post : Value → H → Prop} (A : List Ent) (em : Ent) (C : List Ent) (hown : own = A ++ em :: C) (Hd ef el : Ent) (mH : Hd ∈ A) (mF : ef ∈ A) (mL : el ∈ A) (idH : Hd.id = some bh)
    (k4 : Hd.cells[o + 4]? = some (.slice sf.a sf.len sf.cap)) (k5 : Hd.cells[o + 5]? = some (.slice sl.a sl.len sl.cap)) (k6 : Hd.cells[o + 6]? = some (.slice sm.a sm.len sm.cap))
    (hf : OwnsSl 3 sf ef (fs.flatMap cwV)) (hl : OwnsSl 3 sl el (ls.flatMap cwV)) (hm : OwnsSl 1 sm em (ints mv)) (l1 : ls.length = fs.length) (l2 : mv.length = fs.length) (l4 : fs.length ≤ 4) (hb : ∀ x ∈ mv, 0 ≤ x ∧ x ≤ 1) (wl : ∀ w ∈ ls, CW.ok ro w)
    (hk : ∀ s' e' em', OwnsSl 1 sm em' (ints (seesGo (fs.map (·.1)) (ls.map (·.1)) 0 mv [] true).2.2) → (∀ D, (∀ x ∈ [e'], x ∈ D) → RdSl ⟨D, ro⟩ s' (ints (seesGo (fs.map (·.1)) (ls.map (·.1)) 0 mv [] true).1)) → s'.len ≤ 4 →
      post (.tuple (List.toArray [.slice s'.a s'.len s'.cap, .bool (seesGo (fs.map (·.1)) (ls.map (·.1)) 0 mv [] true).2.1])) ⟨A ++ em' :: C ++ [e'], ro⟩) :
    SemCall Tryd.prog 48 (List.toArray [.pointer (some (Addr.mk bh o none))]) ⟨own, ro⟩ post := by
  subst hown
  refine f48_call _ _ post ?_
  have fl := hf.rows_len cwV_len (by decide)
  have ll := hl.rows_len cwV_len (by decide)
  have ml := hm.sl_len
  rw [ints_length] at ml
  simp only [f48_sem, f48_L1, add_mk', Option.some.injEq, exists_eq_left', Nat.add_zero]
  have rH : ∀ {B : List Ent} {j : Nat} {v : Value}, Hd.cells[j]? = some v → H.rd ⟨A ++ B, ro⟩ (Addr.mk bh j none) v := fun hj => rdo Hd (List.mem_append_left _ mH) idH hj
  have rF : ∀ {B : List Ent}, RdRows ⟨A ++ B, ro⟩ 3 sf (fs.flatMap cwV) := fun {B} => RdRows.of_own (e := ef) (List.mem_append_left _ mF) hf
  have rL : ∀ {B : List Ent}, RdRows ⟨A ++ B, ro⟩ 3 sl (ls.flatMap cwV) := fun {B} => RdRows.of_own (e := el) (List.mem_append_left _ mL) hl
  refine ⟨sf, rH k4, ?_⟩
  refine ⟨fun s' b h => ∃ e' em', h = ⟨A ++ em' :: C ++ [e'], ro⟩ ∧ OwnsSl 1 sm em' (ints (seesGo (fs.map (·.1)) (ls.map (·.1)) 0 mv [] true).2.2) ∧ OwnsSl 1 s' e' (ints (seesGo (fs.map (·.1)) (ls.map (·.1)) 0 mv [] true).1) ∧ b = (seesGo (fs.map (·.1)) (ls.map (·.1)) 0 mv [] true).2.1 ∧ s'.len ≤ 4,
    ⟨fun n s' b i h => ∃ (k : Nat) (e' em' : Ent) (mk : List Int) (out : List Int), i = k ∧ k ≤ fs.length ∧ n = fs.length - k ∧ h = ⟨A ++ em' :: C ++ [e'], ro⟩ ∧ OwnsSl 1 sm em' (ints mk) ∧ mk.length = fs.length ∧ OwnsSl 1 s' e' (ints out) ∧ out.length = k ∧ (∀ x ∈ mk, 0 ≤ x ∧ x ≤ 1) ∧
      seesGo (fs.map (·.1)) (ls.map (·.1)) 0 mv [] true = seesGo ((fs.drop k).map (·.1)) ((ls.drop k).map (·.1)) k mk out b,
      ⟨fs.length, ⟨A ++ em :: C ++ [⟨none, [], 0⟩], ro⟩, by simpa using Gh.phantom (A ++ em :: C) [] ro 0, 0, _, em, mv, [], rfl, by omega, by omega, rfl, hm, l2, OwnsSl.nil 1, rfl, hb, rfl⟩, ?_⟩, ?_⟩
  · rintro n _ s' b i h ⟨k, e', em', mk, out, rfl, hk1, rfl, rfl, hm', hmkl, ho', hol, hmk, hgo⟩
    have sol := ho'.sl_len
    rw [ints_length] at sol
    refine VIf_dec (fun hx => ?_) (fun hx => ?_)
    · have hkf : k < fs.length := by omega
      obtain ⟨bl, w, hbl, hw, hrw⟩ := (rL (B := em' :: C ++ [e'])).row cwV_len (by decide) (i := (k : Int)) (by omega) (by omega)
      simp only [Int.toNat_natCast] at hw hrw
      have hrl : ∀ {B : List Ent} {j : Nat} {v : Value}, (cwV w)[j]? = some v → H.rd ⟨A ++ B, ro⟩ (Addr.add (Addr.add bl (k * 3)) j) v := by
        intro B j v hv
        obtain ⟨bl', w', hbl', hw', hrw'⟩ := (rL (B := B)).row cwV_len (by decide) (i := (k : Int)) (by omega) (by omega)
        simp only [Int.toNat_natCast] at hw' hrw'
        rw [hbl] at hbl'; rw [hw] at hw'
        cases hbl'; cases hw'
        exact hrw' j v hv
      obtain ⟨bf, u, hbf, hu, hru0⟩ := (rF (B := em' :: C ++ [e'])).row cwV_len (by decide) (i := (k : Int)) (by omega) (by omega)
      simp only [Int.toNat_natCast] at hu hru0
      have hru : ∀ {B : List Ent} {j : Nat} {v : Value}, (cwV u)[j]? = some v → H.rd ⟨A ++ B, ro⟩ (Addr.add (Addr.add bf (k * 3)) j) v := by
        intro B j v hv
        obtain ⟨bl', w', hbl', hw', hrw'⟩ := (rF (B := B)).row cwV_len (by decide) (i := (k : Int)) (by omega) (by omega)
        simp only [Int.toNat_natCast] at hw' hrw'
        rw [hbf] at hbl'; rw [hu] at hw'
        cases hbl'; cases hw'
        exact hrw' j v hv
      have hdf : fs.drop k = u :: fs.drop (k + 1) := by
        rw [List.drop_eq_getElem_cons hkf]; rw [List.getElem?_eq_getElem hkf] at hu; cases hu; rfl
      have hdl : ls.drop k = w :: ls.drop (k + 1) := by
        rw [List.drop_eq_getElem_cons (by omega)]; rw [List.getElem?_eq_getElem (by omega)] at hw; cases hw; rfl
      rw [hdf, hdl, List.map_cons, List.map_cons] at hgo
      have hao : ∀ (B : List Ent), A ++ em' :: C ++ B = A ++ (em' :: C ++ B) := fun B => by simp
      simp only [hao]
      refine ⟨sl, rH k5, bl, hbl, by omega, by omega, w.1.value, ?_, ?_⟩
      · rw [add_zero', Int.toNat_natCast]; exact hrl (j := 0) rfl
      refine app_row grows_ints (vs := [.int .i64 w.1.value]) rfl ⟨rfl, trivial⟩ (A ++ em' :: C) e' [] (by simp) ho' (by omega) (fun s2 e2 o2 hl2 => ?_)
      simp only [hao]
      refine ⟨sf, rH k4, bf, hbf, by omega, by omega, u.1.turn, ?_, sl, rH k5, bl, hbl, by omega, by omega, w.1.turn, ?_, ?_⟩
      · rw [add_zero', Int.toNat_natCast]; exact hru (j := 1) rfl
      · rw [add_zero', Int.toNat_natCast]; exact hrl (j := 1) rfl
      obtain ⟨m0, hm0⟩ : ∃ x, mk[k]? = some x := ⟨_, List.getElem?_eq_getElem (by omega)⟩
      obtain ⟨b0, b1⟩ := hmk m0 (List.mem_of_getElem? hm0)
      refine VIf_ne (fun ht => ?_) (fun ht => ?_)
      · rw [seesGo, if_pos ht, hm0, Option.getD_some] at hgo
        have rm : RdSl ⟨A ++ (em' :: C ++ [e2]), ro⟩ sm (ints mk) := RdSl.of_own (e := em') (by simp) hm'
        refine ⟨sm, rH k6, rm.idx (by omega) (by omega) fun y hy => ?_⟩
        simp only [Int.toNat_natCast] at hy
        rw [hm0] at hy; cases hy
        refine ⟨⟨by omega, by omega⟩, wr_at A em' (C ++ [e2]) (by simp) hm' (by omega) (by omega) (fun em2 om2 _ => ?_)⟩
        simp only [Int.toNat_natCast] at om2
        refine ⟨sm, rH k6, ?_⟩
        have rm2 : RdSl ⟨A ++ em2 :: (C ++ [e2]), ro⟩ sm (ints (mk.set k (m0 + 1))) := RdSl.of_own (e := em2) (by simp) om2
        refine rm2.idx (by omega) (by omega) fun y hy => ?_
        simp only [Int.toNat_natCast] at hy
        rw [List.getElem?_set_self (by omega)] at hy; cases hy
        refine VIf_eq (fun h2 => ?_) (fun h2 => ?_)
        · rw [if_pos h2] at hgo
          refine ⟨sl, rH k5, bl, hbl, by omega, by omega, w.2, ?_, ?_⟩
          · rw [add_zero', Int.toNat_natCast]; exact hrl (j := 2) rfl
          obtain ⟨w1, w2⟩ := wl w (List.mem_of_getElem? hw)
          have := hk w.2 e2 em2 (by rw [hgo]; exact om2) (fun D hD => by rw [hgo]; exact w1.ro) (by have := w1.len; rw [ints_length] at this; omega)
          rw [hgo] at this
          refine ret ?_
          simpa using this
        · rw [if_neg h2] at hgo
          refine ⟨⟨by omega, by omega⟩, fs.length - (k + 1), by omega, gi ⟨k + 1, e2, em2, _, _, by omega, by omega, rfl, by simp, om2, by simpa using hmkl, by simpa [ints, intV] using o2, by simp [hol], fun x hx => ?_, hgo⟩⟩
          rcases mem_set_cases hx with rfl | ⟨j, _, hj⟩
          · omega
          · exact hmk x (List.mem_of_getElem? hj)
      · rw [seesGo, if_neg (by simpa using ht)] at hgo
        exact ⟨⟨by omega, by omega⟩, fs.length - (k + 1), by omega, gi ⟨k + 1, e2, em', mk, _, by omega, by omega, rfl, by simp, hm', hmkl, by simpa [ints, intV] using o2, by simp [hol], hmk, hgo⟩⟩
    · have hkf : k = fs.length := by omega
      rw [List.drop_of_length_le (by omega), List.drop_of_length_le (by omega)] at hgo
      refine gi ⟨e', em', rfl, ?_, ?_, ?_, by omega⟩
      · rw [hgo]; simpa [seesGo] using hm'
      · rw [hgo]; simpa [seesGo] using ho'
      · rw [hgo]; simp [seesGo]
  · rintro _ s' b h ⟨e', em', rfl, h1, h2, rfl, h4⟩
    exact ret (hk s' e' em' h1 (fun D hD => RdSl.of_own (e := e') (hD e' (by simp)) h2) h4)

/-- new rows in the place of others, of which the first two are empty -/
theorem Gh.put3 {ro : Addr → Option Value} (A O D X : List Ent) (e : Ent) (he : e ∈ X) : Gh ⟨A ++ (O ++ D) ++ X, ro⟩ ⟨A ++ ([⟨none, [], 0⟩, ⟨none, [], 0⟩, e] ++ D), ro⟩ := by
  have s1 : List.Sublist (A ++ D ++ [e]) (A ++ (O ++ D) ++ X) := List.Sublist.append (List.Sublist.append (List.Sublist.refl A) (List.sublist_append_right O D)) (List.singleton_sublist.2 he)
  refine (Gh.drop s1).trans ((Gh.perm (own' := A ++ ([e] ++ D)) ?_).trans ?_)
  · rw [List.append_assoc]
    exact List.Perm.append_left _ List.perm_append_comm
  · have g1 := Gh.phantom A ([e] ++ D) ro 0
    have g2 := Gh.phantom A (⟨none, [], 0⟩ :: ([e] ++ D)) ro 0
    exact g1.trans g2
theorem Gh.put0 {ro : Addr → Option Value} (A O D X : List Ent) : Gh ⟨A ++ (O ++ D) ++ X, ro⟩ ⟨A ++ ([⟨none, [], 0⟩, ⟨none, [], 0⟩, ⟨none, [], 0⟩] ++ D) ++ X, ro⟩ := by
  have s1 : List.Sublist (A ++ D ++ X) (A ++ (O ++ D) ++ X) := List.Sublist.append (List.Sublist.append (List.Sublist.refl A) (List.sublist_append_right O D)) (List.Sublist.refl X)
  refine (Gh.drop s1).trans ?_
  rw [List.append_assoc]
  have g1 := Gh.phantom A (D ++ X) ro 0
  have g2 := Gh.phantom A (⟨none, [], 0⟩ :: (D ++ X)) ro 0
  have g3 := Gh.phantom A (⟨none, [], 0⟩ :: ⟨none, [], 0⟩ :: (D ++ X)) ro 0
  have := (g1.trans g2).trans g3
  simpa using this
/-- what Write and Look do -/
def snapBegin (b : Board) (p : Int) (wr : Bool) (v : Int) : Board × Int :=
  if ¬ (0 ≤ p ∧ p ≤ (b.hands.length : Int) - 1) ∨ ¬ (0 ≤ v ∧ v ≤ 1000) then (b, 1)
  else match b.hands[p.toNat]? with
    | none => (b, 1)
    | some h => if h.ln ≠ 0 then (b, 7) else ({ b with hands := b.hands.set p.toNat ⟨1, 0, wr, v, [], [], List.replicate b.hands.length 0⟩ }, 0)
theorem snap_begin_c {p : Nat} {b : Board} {q v : Int} {wr : Bool} {L own : List Ent} {ro : Addr → Option Value} {post : Value → H → Prop} (A C : List Ent) (hown : own = A ++ (L ++ C)) (hs : BoardAt p b L ro)
    (hk : ∀ L', BoardAt p (snapBegin b q wr v).1 L' ro → post (errV (eno 79 (snapBegin b q wr v).2)) ⟨A ++ (L' ++ C), ro⟩) :
    SemCall Tryd.prog 46 (List.toArray [.pointer (some (Addr.mk p 0 none)), .int .i64 q, .agg (List.toArray [.int .i64 0, .int .i64 0, .bool wr, .int .i64 v, .slice none 0 0, .slice none 0 0, .slice none 0 0])]) ⟨own, ro⟩ post := by
  refine lift A C hown (Q := fun L' => BoardAt p (snapBegin b q wr v).1 L' ro) ?_ hk
  clear hk hown post
  intro post hk
  refine f46_call _ _ _ _ _ _ (⟨none, 0, 0⟩) (⟨none, 0, 0⟩) (⟨none, 0, 0⟩) _ post ?_
  have hs' := hs
  obtain ⟨bw, bh, n, c1, c2, ws, cs, rfl, hwd, hhd, hwl, hcl, n4, hwo, hco⟩ := hs
  have hbl : b.hands.length = n := by rw [hhd]; simpa using hcl
  simp only [f46_sem, f46_J1, add_mk', Option.some.injEq, exists_eq_left', Nat.zero_add, Nat.add_zero]
  intro r1 _
  have mB : ∀ {X : List Ent}, boardE p bw bh n ∈ boardL p bw bh n c1 c2 ws cs ++ X := by intro X; simp [boardL]
  have m1 : (⟨some r1, [.int .i64 0, .int .i64 0, .bool wr, .int .i64 v, .slice none 0 0, .slice none 0 0, .slice none 0 0], [Value.int .i64 0, .int .i64 0, .bool wr, .int .i64 v, .slice none 0 0, .slice none 0 0, .slice none 0 0].length⟩ : Ent) ∈ boardL p bw bh n c1 c2 ws cs ++ [⟨some r1, [.int .i64 0, .int .i64 0, .bool wr, .int .i64 v, .slice none 0 0, .slice none 0 0, .slice none 0 0], [Value.int .i64 0, .int .i64 0, .bool wr, .int .i64 v, .slice none 0 0, .slice none 0 0, .slice none 0 0].length⟩] := by simp
  refine join_b (h := ⟨boardL p bw bh n c1 c2 ws cs ++ [⟨some r1, [.int .i64 0, .int .i64 0, .bool wr, .int .i64 v, .slice none 0 0, .slice none 0 0, .slice none 0 0], [Value.int .i64 0, .int .i64 0, .bool wr, .int .i64 v, .slice none 0 0, .slice none 0 0, .slice none 0 0].length⟩], ro⟩) (decide (¬ (0 ≤ q ∧ q ≤ (b.hands.length : Int) - 1) ∨ ¬ (0 ≤ v ∧ v ≤ 1000))) ?_ ?_
  · refine ⟨⟨some (Addr.mk bh 0 none), n, n⟩, rdo _ mB rfl rfl, ⟨by dsimp only; omega, by dsimp only; omega⟩, within_i (fun hx => ⟨_, rfl, VIf_nb (fun _ => gi ⟨rfl, ?_⟩) (nomatch ·)⟩) (fun x1 x2 => ⟨_, rfl, VIf_nb (nomatch ·) (fun _ => ⟨v, rdo _ m1 rfl rfl, within_c ⟨_, rfl, gi ⟨rfl, ?_⟩⟩⟩)⟩)⟩
    · rw [← hbl] at hx
      exact (decide_eq_true (.inl hx)).symm
    · dsimp only at x2
      by_cases ha : 0 ≤ v ∧ v ≤ 1000
      · rw [decide_eq_true ha, decide_eq_false (by omega)]; rfl
      · rw [decide_eq_false ha, decide_eq_true (.inr ha)]; rfl
  refine VIf_dec (fun hx => ?_) (fun hx => ?_)
  · rw [snapBegin, if_pos hx] at hk
    exact ⟨_, Gh.drop (List.sublist_append_left _ _), hk _ hs'⟩
  rw [snapBegin, if_neg hx] at hk
  have hq : q.toNat < cs.length := by omega
  obtain ⟨c, hc⟩ : ∃ c, cs[q.toNat]? = some c := ⟨_, List.getElem?_eq_getElem hq⟩
  have hbq : b.hands[q.toNat]? = some (HC.abs c) := by rw [hhd, List.getElem?_map, hc]; rfl
  rw [hbq] at hk
  simp only at hk
  have mH : ∀ {X : List Ent}, (⟨some bh, cs.flatMap hcV, c2⟩ : Ent) ∈ boardL p bw bh n c1 c2 ws cs ++ X := by intro X; simp [boardL]
  refine ⟨⟨some (Addr.mk bh 0 none), n, n⟩, rdo _ mB rfl rfl, Addr.mk bh 0 none, rfl, by omega, by simp only; omega, ?_⟩
  simp only [add_mk', Nat.zero_add, Nat.add_zero]
  refine ⟨c.ln, rd_row hcV_len _ mH rfl rfl hc (j := 0) rfl rfl, VIf_ne (fun h0 => ?_) (fun h0 => ?_)⟩
  · rw [if_pos (show (HC.abs c).ln ≠ 0 from h0)] at hk
    exact ⟨_, Gh.drop (List.sublist_append_left _ _), hk _ hs'⟩
  rw [if_neg (not_not_intro (show (HC.abs c).ln = 0 from h0))] at hk
  refine wro (boardL p bw bh n c1 c2 ws cs) _ [] ⟨rfl, trivial⟩ rfl rfl (by simp) ?_
  refine ⟨⟨some (Addr.mk bh 0 none), n, n⟩, rdo _ mB rfl rfl, by dsimp only; omega, by dsimp only; omega, by dsimp only; omega, by dsimp only; omega, ?_⟩
  intro r2 _
  refine wro (boardL p bw bh n c1 c2 ws cs) ⟨some r1, [.int .i64 1, .int .i64 0, .bool wr, .int .i64 v, .slice none 0 0, .slice none 0 0, .slice none 0 0], 7⟩ [⟨some r2, repl n [.int .i64 0], (repl n [.int .i64 0]).length⟩] ⟨rfl, trivial⟩ (by simp [spl]) rfl (by simp) ?_
  refine ⟨⟨some (Addr.mk bh 0 none), n, n⟩, rdo _ mB rfl rfl, ?_⟩
  have m2 : ∀ {e : Ent} {X : List Ent}, e ∈ boardL p bw bh n c1 c2 ws cs ++ e :: X := by intro e X; simp
  refine ⟨1, rdo _ m2 rfl rfl, 0, rdo _ m2 rfl rfl, wr, rdo _ m2 rfl rfl, v, rdo _ m2 rfl rfl, ⟨none, 0, 0⟩, rdo _ m2 rfl rfl, ⟨none, 0, 0⟩, rdo _ m2 rfl rfl, ⟨some (Addr.mk r2 0 none), n, n⟩, rdo _ m2 rfl (by simp [spl]), ?_⟩
  refine ⟨Addr.mk bh 0 none, rfl, by omega, by simp only; omega, rfl, rfl, ?_⟩
  simp only [add_mk', Nat.zero_add, Nat.add_zero]
  rw [boardL_at hc, repl_ints]
  let c' : HC := ⟨1, 0, wr, v, [], [], List.replicate n 0, ⟨none, 0, 0⟩, ⟨none, 0, 0⟩, ⟨some (Addr.mk r2 0 none), n, n⟩, ⟨none, [], 0⟩, ⟨none, [], 0⟩, ⟨some r2, ints (List.replicate n 0), (ints (List.replicate n 0)).length⟩⟩
  have hc' : HC.ok ro c' := ⟨OwnsSl.nil 3, OwnsSl.nil 3, OwnsSl.at0 1 (by simp) (by simp) (by simp only [maxLen]; omega), by simp [c'], by simp [c']⟩
  refine wr_rows hcV_len [boardE p bw bh n, ⟨some bw, ws.flatMap cwV, c1⟩] ⟨some bh, cs.flatMap hcV, c2⟩ _ c' ⟨rfl, rfl, rfl, rfl, rfl, rfl, rfl, trivial⟩ rfl rfl rfl hc (j := 0) rfl (by simp) (by simp [spl, hcV, c']) ?_
  have hL := boardL_set (p := p) (bw := bw) (bh := bh) (n := n) (c1 := c1) (c2 := c2) (ws := ws) (c := c') hq
  have hput := Gh.put3 (ro := ro) ([boardE p bw bh n, ⟨some bw, ws.flatMap cwV, c1⟩, ⟨some bh, (cs.set q.toNat c').flatMap hcV, c2⟩] ++ (cs.take q.toNat).flatMap HC.ents) [c.ef, c.el, c.em] ((cs.drop (q.toNat + 1)).flatMap HC.ents) [⟨some r1, [.int .i64 1, .int .i64 0, .bool wr, .int .i64 v, .slice none 0 0, .slice none 0 0, .slice (some (Addr.mk r2 0 none)) n n], 7⟩, c'.em] c'.em (by simp)
  refine ⟨⟨boardL p bw bh n c1 c2 ws (cs.set q.toNat c'), ro⟩, ?_, hk _ ⟨bw, bh, n, c1, c2, ws, _, rfl, hwd, ?_, hwl, by simpa using hcl, n4, hwo, fun y hy => ?_⟩⟩
  · rw [hL]
    simpa [spl, c'] using hput
  · dsimp only; rw [hbl, hhd, List.map_set]; rfl
  · rcases mem_set_cases hy with rfl | ⟨j, _, hj⟩
    · exact hc'
    · exact hco y (List.mem_of_getElem? hj)
theorem snap_write_c {p : Nat} {b : Board} {q v : Int} {L own : List Ent} {ro : Addr → Option Value} {post : Value → H → Prop} (A C : List Ent) (hown : own = A ++ (L ++ C)) (hs : BoardAt p b L ro)
    (hk : ∀ L', BoardAt p (snapBegin b q true v).1 L' ro → post (errV (eno 79 (snapBegin b q true v).2)) ⟨A ++ (L' ++ C), ro⟩) :
    SemCall Tryd.prog 29 (List.toArray [.pointer (some (Addr.mk p 0 none)), .int .i64 q, .int .i64 v]) ⟨own, ro⟩ post :=
  f29_call _ _ _ _ post (snap_begin_c A C hown hs (fun L' h => ⟨_, rfl, ret (hk L' h)⟩))
theorem snap_look_c {p : Nat} {b : Board} {q : Int} {L own : List Ent} {ro : Addr → Option Value} {post : Value → H → Prop} (A C : List Ent) (hown : own = A ++ (L ++ C)) (hs : BoardAt p b L ro)
    (hk : ∀ L', BoardAt p (snapBegin b q false 0).1 L' ro → post (errV (eno 79 (snapBegin b q false 0).2)) ⟨A ++ (L' ++ C), ro⟩) :
    SemCall Tryd.prog 30 (List.toArray [.pointer (some (Addr.mk p 0 none)), .int .i64 q]) ⟨own, ro⟩ post :=
  f30_call _ _ _ post (snap_begin_c A C hown hs (fun L' h => ⟨_, rfl, ret (hk L' h)⟩))
end Go.Proofs.YtnecppjgcbhnaaaDoor
