import Derived.Test.YtnppmcgmmdcpiaaDoorBt
namespace Go.Proofs.YtnppmcgmmdcpiaaDoor
open Go.Eng
set_option maxRecDepth 20000
/-! ### a book in which something was asked and given back -/
noncomputable def bstep (x : Bo) (l : List Int) : Bo :=
  match l with
  | a :: t :: want => bput x (a != 0) t want
  | _ => x
noncomputable def btold (b : Bk) (rows : List (List Int)) : Bo := (rows.take 70).foldl bstep ⟨b, [], 0⟩
def tdI (own : List Ent) (ss : SV) (rows : List (List Int)) (b : Bk) (r0 : Nat) (ro : Addr → Option Value) (m : Nat) (i : Int) (h : H) : Prop :=
  ∃ (k : Nat) (s : BkS) (ro2 : Addr → Option Value), i = (k : Int) ∧ k ≤ ss.len ∧ k ≤ 70 ∧ m = ss.len - k ∧ (∀ a v, ro a = some v → ro2 a = some v) ∧ BOO s ((rows.take k).foldl bstep ⟨b, [], 0⟩) ro2 ∧ s.r = r0 ∧ h = ⟨own ++ boL s, ro2⟩
def tdF (xs : List Int) : Bool :=
  match xs with
  | a :: _ :: _ => a != 0
  | _ => false
theorem fold_next {rows : List (List Int)} {k : Nat} {xs : List Int} {x0 : Bo} (hg : rows[k]? = some xs) : (rows.take (k + 1)).foldl bstep x0 = bstep ((rows.take k).foldl bstep x0) xs := by
  rw [List.take_add_one, hg, List.foldl_append]
  rfl

set_option maxHeartbeats 800000 in
theorem told_J2 {own : List Ent} {ss t : SV} {rows : List (List Int)} {b : Bk} {r0 T : Nat} {ro ro2 : Addr → Option Value} {xs : List Int} {k : Nat} {s : BkS} (hT : shE 1 T 20 ∈ own) (hTab : HasTab ro) (hkl : k < ss.len) (hk70 : k < 70) (hg : rows[k]? = some xs)
    (htr : RdSl ⟨[], ro⟩ t (ints xs)) (htc : t.len ≤ t.cap) (m2 : ∀ a v, ro a = some v → ro2 a = some v) (hB : BOO s ((rows.take k).foldl bstep ⟨b, [], 0⟩) ro2) (hr : s.r = r0) :
    f6_J2 (some (Addr.mk r0 0 none)) (tdI own ss rows b r0 ro) (ss.len - k) (k : Int) t (tdF xs) ⟨own ++ boL s, ro2⟩ := by
  have htl := htr.len
  rw [ints_length] at htl
  have hTm : shE 1 T 20 ∈ own ++ [] := by simpa using hT
  have hnext := fold_next (x0 := ⟨b, [], 0⟩) hg
  have fin : ∀ (s' : BkS) (x' : Bo) ro4, x' = bstep ((rows.take k).foldl bstep ⟨b, [], 0⟩) xs → (∀ a v, ro2 a = some v → ro4 a = some v) → BOO s' x' ro4 → s'.r = s.r → tdI own ss rows b r0 ro (ss.len - (k + 1)) ((k : Int) + 1) ⟨own ++ boL s', ro4⟩ := by
    intro s' x' ro4 he m4 hB' hr'
    exact ⟨k + 1, s', ro4, by omega, by omega, by omega, rfl, fun a v h => m4 a v (m2 a v h), by rw [hnext, ← he]; exact hB', hr'.trans hr, rfl⟩
  simp only [f6_J2, f6_J1]
  match xs, htr, htl, fin with
  | [], htr, htl, fin =>
    simp at htl
    refine ⟨fun h => h = ⟨own ++ boL s, ro2⟩, VIf_b (nomatch ·) (fun _ => gi rfl), ?_⟩
    rintro _ _ rfl
    exact join_b false (VIf_dec (fun h => by omega) (fun _ => gi ⟨rfl, rfl⟩)) (VIf_b (nomatch ·) (fun _ => ⟨⟨by omega, by omega⟩, ss.len - (k + 1), by omega, gi (fin s _ ro2 rfl (fun _ _ h => h) hB rfl)⟩))
  | [_], htr, htl, fin =>
    simp at htl
    refine ⟨fun h => h = ⟨own ++ boL s, ro2⟩, VIf_b (nomatch ·) (fun _ => gi rfl), ?_⟩
    rintro _ _ rfl
    exact join_b false (VIf_dec (fun h => by omega) (fun _ => gi ⟨rfl, rfl⟩)) (VIf_b (nomatch ·) (fun _ => ⟨⟨by omega, by omega⟩, ss.len - (k + 1), by omega, gi (fin s _ ro2 rfl (fun _ _ h => h) hB rfl)⟩))
  | a :: tk :: want, htr, htl, fin =>
    simp only [List.length_cons] at htl
    obtain ⟨ad, had⟩ := htr.addr (by simp)
    have htX : ∀ {X ro4}, (∀ a v, ro2 a = some v → ro4 a = some v) → RdSl ⟨X, ro4⟩ t (ints (a :: tk :: want)) := fun {X ro4} m => htr.mono (by simp) (fun a v h => m a v (m2 a v h))
    have hwX : ∀ {X ro4}, (∀ a v, ro2 a = some v → ro4 a = some v) → RdSl ⟨X, ro4⟩ ⟨if t.cap = (2 : Int).toNat then t.a else Option.map (fun z => Addr.add z ((2 : Int).toNat * 1)) t.a, t.len - (2 : Int).toNat, t.cap - (2 : Int).toNat⟩ (ints want) := fun {X ro4} m => drop2 (htX m) (by omega) htc
    obtain ⟨sw, hsw⟩ : ∃ sw : SV, (⟨if t.cap = (2 : Int).toNat then t.a else Option.map (fun z => Addr.add z ((2 : Int).toNat * 1)) t.a, t.len - (2 : Int).toNat, t.cap - (2 : Int).toNat⟩ : SV) = sw := ⟨_, rfl⟩
    have hsv : Value.slice (if t.cap = (2 : Int).toNat then t.a else Option.map (fun z => Addr.add z ((2 : Int).toNat * 1)) t.a) (t.len - (2 : Int).toNat) (t.cap - (2 : Int).toNat) = Value.slice sw.a sw.len sw.cap := by rw [← hsw]
    rw [hsw] at hwX
    simp only [hsv]
    clear hsv hsw
    have e0 : ∀ {X ro4}, (∀ a v, ro2 a = some v → ro4 a = some v) → H.rd ⟨X, ro4⟩ (Addr.add (Addr.add ad ((0 : Int).toNat * 1)) 0) (.int .i64 a) := fun {X ro4} m => RdSl.rdi (htX m) had (i := (0 : Int).toNat) rfl
    have e1 : ∀ {X ro4}, (∀ a v, ro2 a = some v → ro4 a = some v) → H.rd ⟨X, ro4⟩ (Addr.add (Addr.add ad ((1 : Int).toNat * 1)) 0) (.int .i64 tk) := fun {X ro4} m => RdSl.rdi (htX m) had (i := (1 : Int).toNat) rfl
    have id2 : ∀ a v, ro2 a = some v → ro2 a = some v := fun _ _ h => h
    have l20 : (0 : Int) < ((t.len : Nat) : Int) := by omega
    have l21 : (1 : Int) < ((t.len : Nat) : Int) := by omega
    have l22 : (2 : Int) ≤ ((t.len : Nat) : Int) := by omega
    have hl2 : ((t.len : Nat) : Int) ≥ 2 := by omega
    clear htX htr htl
    by_cases ha : a = 0
    · have hab : (a != 0) = false := by simp [ha]
      rw [show tdF (a :: tk :: want) = false from hab]
      refine ⟨fun h => h = ⟨own ++ boL s, ro2⟩, VIf_b (nomatch ·) (fun _ => gi rfl), ?_⟩
      rintro _ _ rfl
      refine join_b true (VIf_dec (fun _ => ⟨ad, had, Int.le_refl _, l20, a, e0 id2, gi ⟨rfl, by simp [ha]⟩⟩) (fun h => absurd hl2 h)) (VIf_b (fun _ => ?_) (nomatch ·))
      rw [← hr]
      refine ⟨ad, had, by decide, l21, tk, e1 id2, by decide, l22, ask_c own [] (by simp) hTm (hTab.up m2) hB (hwX id2) (fun s' ro4 m4 hB' hr' => ⟨_, rfl, ⟨by omega, by omega⟩, ss.len - (k + 1), by omega, gi ?_⟩)⟩
      have := fin s' _ ro4 (by simp only [bstep, hab]) m4 hB' hr'
      rw [List.append_nil, hr]
      exact this
    · have hab : (a != 0) = true := by simp [ha]
      rw [show tdF (a :: tk :: want) = true from hab]
      refine ⟨fun h => ∃ s' ro4, (∀ a v, ro2 a = some v → ro4 a = some v) ∧ BOO s' (bput ((rows.take k).foldl bstep ⟨b, [], 0⟩) true tk want) ro4 ∧ s'.r = s.r ∧ h = ⟨own ++ boL s', ro4⟩, VIf_b (fun _ => ?_) (nomatch ·), ?_⟩
      · rw [← hr]
        refine ⟨ad, had, by decide, l21, tk, e1 id2, by decide, l22, back_c own [] (by simp) hTm (hTab.up m2) hB (hwX id2) (fun s' ro4 m4 hB' hr' => ⟨_, rfl, gi ⟨s', ro4, m4, hB', hr', by rw [List.append_nil]⟩⟩)⟩
      · rintro _ _ ⟨s', ro4, m4, hB', hr', rfl⟩
        refine join_b false (VIf_dec (fun _ => ⟨ad, had, Int.le_refl _, l20, a, e0 m4, gi ⟨rfl, by simp [ha]⟩⟩) (fun h => absurd hl2 h)) (VIf_b (nomatch ·) (fun _ => ⟨⟨by omega, by omega⟩, ss.len - (k + 1), by omega, gi (fin s' _ ro4 (by simp only [bstep, hab]) m4 hB' hr')⟩))

theorem told_c' {b : Bk} {sf sc sh ss : SV} {rows : List (SV × List Int)} {own : List Ent} {ro : Addr → Option Value} {post : Value → H → Prop} {T : Nat} (hT : shE 1 T 20 ∈ own) (hTab : HasTab ro) (hb : BkRd ⟨own, ro⟩ sf sc sh b) (hs : RdRowsOf ⟨[], ro⟩ ss rows) (hcap : ∀ r ∈ rows, r.1.len ≤ r.1.cap)
    (h0 : ¬ (BOk b ∧ brow b ≠ none) → post (.tuple (List.toArray [.pointer none, .bool false])) ⟨own, ro⟩)
    (h1 : BOk b → brow b ≠ none → ∀ s ro', (∀ a v, ro a = some v → ro' a = some v) → BOO s (btold b (rows.map Prod.snd)) ro' → post (.tuple (List.toArray [.pointer (some (Addr.mk s.r 0 none)), .bool true])) ⟨own ++ boL s, ro'⟩) :
    SemCall Tryd.prog 6 (List.toArray [bkV sf sc sh, .slice ss.a ss.len ss.cap]) ⟨own, ro⟩ post := by
  refine f6_call sf sc sh ss _ post ?_
  intro r1 _
  simp only [add_mk', Nat.zero_add, Nat.add_zero]
  rw [show (⟨some r1, [Value.slice sf.a sf.len sf.cap, .slice sc.a sc.len sc.cap, .slice sh.a sh.len sh.cap], List.length [Value.slice sf.a sf.len sf.cap, .slice sc.a sc.len sc.cap, .slice sh.a sh.len sh.cap]⟩ : Ent) = bkE r1 sf sc sh from rfl]
  have hE : bkE r1 sf sc sh ∈ own ++ [bkE r1 sf sc sh] := by simp
  have sl := hs.1.len
  rw [List.length_map] at sl
  refine ⟨sf, bkE_0 hE, sc, bkE_1 hE, sh, bkE_2 hE, new_c (hb.mono (fun e he => by simp [he]) (fun _ _ h => h)) (fun hc => ⟨none, _, rfl, VIf_nerr (fun _ => ⟨⟨own, ro⟩, Gh.drop (by simp), h0 (fun h => hc (bcheck_zero.2 h.1))⟩) (fun h => absurd h hc)⟩)
    (fun _ hr => ⟨none, _, rfl, VIf_nerr (fun _ => ⟨⟨own, ro⟩, Gh.drop (by simp), h0 (fun h => h.2 hr)⟩) (fun h => by cases h)⟩) (fun ho hr s0 ro3 m3 hB0 => ⟨_, none, rfl, VIf_nnil ?_⟩)⟩
  have hT' : shE 1 T 20 ∈ own ++ [bkE r1 sf sc sh] := by simp [hT]
  refine ⟨fun h => ∃ s ro2, (∀ a v, ro a = some v → ro2 a = some v) ∧ BOO s (btold b (rows.map Prod.snd)) ro2 ∧ s.r = s0.r ∧ h = ⟨own ++ [bkE r1 sf sc sh] ++ boL s, ro2⟩, ⟨tdI (own ++ [bkE r1 sf sc sh]) ss (rows.map Prod.snd) b s0.r ro, ⟨ss.len - 0, gi ⟨0, s0, ro3, rfl, Nat.zero_le _, Nat.zero_le _, rfl, m3, hB0, rfl, rfl⟩⟩, ?_⟩, ?_⟩
  · rintro m _ i _ ⟨k, s, ro2, rfl, hk, hk70, rfl, m2, hB, hr', rfl⟩
    by_cases hkl : k < ss.len ∧ k < 70
    · refine join_b true (VIf_dec (fun _ => gi ⟨rfl, decide_eq_true (by have := hkl.2; omega)⟩) (fun h => by omega)) (VIf_b (fun _ => ?_) (nomatch ·))
      have hs2 : RdRowsOf ⟨own ++ [bkE r1 sf sc sh] ++ boL s, ro2⟩ ss rows := hs.mono (by simp) m2
      refine hs2.idx (by omega) (by omega) (fun t xs hg hxt => ?_)
      rw [Int.toNat_natCast] at hg
      have htr : RdSl ⟨[], ro⟩ t (ints xs) := hs.2 _ (List.mem_of_getElem? hg)
      have htl := htr.len
      rw [ints_length] at htl
      refine join_b (tdF xs) (VIf_dec (fun h2 => ?_) (fun h2 => ?_)) (told_J2 hT' hTab hkl.1 hkl.2 (by rw [List.getElem?_map, hg]; rfl) htr (hcap _ (List.mem_of_getElem? hg)) m2 hB hr')
      · match xs, htr, hxt, htl with
        | [], _, _, h => simp at h; omega
        | [_], _, _, h => simp at h; omega
        | a :: tk :: want, htr, hxt, _ =>
          obtain ⟨ad, had⟩ := htr.addr (by simp)
          exact ⟨ad, had, Int.le_refl _, by omega, a, RdSl.rdi hxt had (i := (0 : Int).toNat) rfl, gi ⟨rfl, rfl⟩⟩
      · match xs, htl with
        | [], _ => exact gi ⟨rfl, rfl⟩
        | [_], _ => exact gi ⟨rfl, rfl⟩
        | a :: tk :: want, h => simp at h; omega
    · have hend : (rows.map Prod.snd).take k = (rows.map Prod.snd).take 70 := by
        by_cases h70 : k < 70
        · have : ss.len ≤ k := by
            rcases Nat.lt_or_ge k ss.len with h | h
            · exact absurd ⟨h, h70⟩ hkl
            · exact h
          rw [List.take_of_length_le (by rw [List.length_map]; omega), List.take_of_length_le (by rw [List.length_map]; omega)]
        · rw [show k = 70 by omega]
      have hB2 : BOO s (btold b (rows.map Prod.snd)) ro2 := by unfold btold; rw [← hend]; exact hB
      refine join_b false (VIf_dec (fun h => gi ⟨rfl, ?_⟩) (fun _ => gi ⟨rfl, rfl⟩)) (VIf_b (nomatch ·) (fun _ => gi ⟨s, ro2, m2, hB2, hr', rfl⟩))
      have : ¬ k < 70 := fun h70 => hkl ⟨by omega, h70⟩
      simp; omega
  · rintro _ _ ⟨s, ro2, m2, hB2, hr', rfl⟩
    refine ⟨⟨own ++ boL s, ro2⟩, Gh.drop (by rw [List.append_assoc]; exact List.Sublist.append_left (List.sublist_append_right _ _) _), ?_⟩
    rw [← hr']
    exact h1 ho hr s ro2 m2 hB2
end Go.Proofs.YtnppmcgmmdcpiaaDoor
