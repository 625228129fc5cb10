import Derived.Test.YtiaopgnnibidlaaDoorTr
namespace Go.Proofs.YtiaopgnnibidlaaDoor
open Go.Eng
set_option maxRecDepth 20000
set_option maxHeartbeats 1000000 in
theorem ref_newtable_c {N : Nat} {own : List Ent} {ro : Addr → Option Value} {post : Value → H → Prop} (h3 : 3 ≤ N) (h6 : N ≤ 6)
    (hk : ∀ G Hs As Dt ro', (∀ a v, ro a = some v → ro' a = some v) → TbR ro' G Hs As Dt (tab0 N) → post (.agg (List.toArray (tbC G Hs As Dt))) ⟨own, ro'⟩) :
    SemCall Tryd.prog 7 (List.toArray [.int .i64 (N : Int)]) ⟨own, ro⟩ post := by
  refine SemCall.wf (fun hw => ?_)
  refine f7_call _ _ post ?_
  intro r1 f1
  have hw1 := hw.add (e := tbE r1 ⟨none, 0, 0⟩ ⟨none, 0, 0⟩ ⟨none, 0, 0⟩ ⟨none, 0, 0⟩) f1 rfl
  refine ⟨by omega, Int.le_refl _, by omega, by omega, ?_⟩
  intro r3 f3
  have e3 : (⟨some r3, repl ((N : Int)).toNat [Value.int .i64 0], (repl ((N : Int)).toNat [Value.int .i64 0]).length⟩ : Ent) = ⟨some r3, ints (List.replicate N 0), N⟩ := by rw [Int.toNat_natCast, repl_ints, ints_length, List.length_replicate]
  have hw3 := hw1.add (e := ⟨some r3, ints (List.replicate N 0), N⟩) f3 rfl
  intro r5 f5
  rw [e3] at f5
  have hw5 := hw3.add (e := tbE r5 ⟨none, 0, 0⟩ ⟨none, 0, 0⟩ ⟨none, 0, 0⟩ ⟨none, 0, 0⟩) f5 rfl
  obtain ⟨B, hB⟩ : ∃ B, B = own ++ [tbE r1 ⟨none, 0, 0⟩ ⟨none, 0, 0⟩ ⟨none, 0, 0⟩ ⟨none, 0, 0⟩] ++ [⟨some r3, ints (List.replicate N 0), N⟩] := ⟨_, rfl⟩
  refine tb_put (r := r5) (a0 := ⟨some (Addr.mk r3 0 none), N, N⟩) (a1 := ⟨none, 0, 0⟩) (a2 := ⟨none, 0, 0⟩) (a3 := ⟨none, 0, 0⟩) (z0 := ⟨none, 0, 0⟩) (z1 := ⟨none, 0, 0⟩) (z2 := ⟨none, 0, 0⟩) (z3 := ⟨none, 0, 0⟩) B [] (by rw [hB, ← e3]; rfl) ?_
  have hw6 : Wf ⟨B ++ [tbE r5 ⟨some (Addr.mk r3 0 none), N, N⟩ ⟨none, 0, 0⟩ ⟨none, 0, 0⟩ ⟨none, 0, 0⟩], ro⟩ := hw5.ids (by rw [hB]; simp [tbE])
  have gz : (⟨some (Addr.mk r3 0 none), ((N : Int)).toNat, ((N : Int)).toNat⟩ : SV) = ⟨some (Addr.mk r3 0 none), N, N⟩ := rfl
  obtain ⟨t, ht⟩ : ∃ t, t = tab0 N := ⟨_, rfl⟩
  refine ⟨fun h => ∃ sH sA sD eH eA eD, h = ⟨B ++ tbE r5 ⟨some (Addr.mk r3 0 none), N, N⟩ sH sA sD :: [eH, eA, eD], ro⟩ ∧ Wf ⟨B ++ tbE r5 ⟨some (Addr.mk r3 0 none), N, N⟩ sH sA sD :: [eH, eA, eD], ro⟩ ∧ OwnsSl 1 sH eH (ints (rm N fun k => (t.w k : Int))) ∧ OwnsSl 1 sA eA (ints (rm N fun k => (t.a k : Int))) ∧ OwnsSl 1 sD eD (ints (rm N fun _ => 1)),
    ⟨fun m i h => ∃ (k : Nat) (sH sA sD : SV) (eH eA eD : Ent), i = (k : Int) ∧ k ≤ N ∧ m = N - k ∧ h = ⟨B ++ tbE r5 ⟨some (Addr.mk r3 0 none), N, N⟩ sH sA sD :: [eH, eA, eD], ro⟩ ∧ Wf ⟨B ++ tbE r5 ⟨some (Addr.mk r3 0 none), N, N⟩ sH sA sD :: [eH, eA, eD], ro⟩ ∧ OwnsSl 1 sH eH (ints (rm k fun k => (t.w k : Int))) ∧ OwnsSl 1 sA eA (ints (rm k fun k => (t.a k : Int))) ∧ OwnsSl 1 sD eD (ints (rm k fun _ => 1)),
      ⟨_, ⟨B ++ tbE r5 ⟨some (Addr.mk r3 0 none), N, N⟩ ⟨none, 0, 0⟩ ⟨none, 0, 0⟩ ⟨none, 0, 0⟩ :: [⟨none, [], 0⟩, ⟨none, [], 0⟩, ⟨none, [], 0⟩], ro⟩, ?_, 0, _, _, _, _, _, _, rfl, by omega, rfl, rfl, ?_, OwnsSl.nil 1, OwnsSl.nil 1, OwnsSl.nil 1⟩, ?_⟩, ?_⟩
  · have g1 := Gh.phantom (B ++ [tbE r5 ⟨some (Addr.mk r3 0 none), N, N⟩ ⟨none, 0, 0⟩ ⟨none, 0, 0⟩ ⟨none, 0, 0⟩]) [] ro 0
    have g2 := Gh.phantom (B ++ [tbE r5 ⟨some (Addr.mk r3 0 none), N, N⟩ ⟨none, 0, 0⟩ ⟨none, 0, 0⟩ ⟨none, 0, 0⟩, ⟨none, [], 0⟩]) [] ro 0
    have g3 := Gh.phantom (B ++ [tbE r5 ⟨some (Addr.mk r3 0 none), N, N⟩ ⟨none, 0, 0⟩ ⟨none, 0, 0⟩ ⟨none, 0, 0⟩, ⟨none, [], 0⟩, ⟨none, [], 0⟩]) [] ro 0
    simp only [List.append_nil, List.append_assoc, List.cons_append, List.nil_append] at g1 g2 g3
    exact g1.trans (g2.trans g3)
  · have a1 := Wf.ph (A := B ++ [tbE r5 ⟨some (Addr.mk r3 0 none), N, N⟩ ⟨none, 0, 0⟩ ⟨none, 0, 0⟩ ⟨none, 0, 0⟩]) (C := []) (by simpa using hw6)
    have a2 := Wf.ph (A := B ++ [tbE r5 ⟨some (Addr.mk r3 0 none), N, N⟩ ⟨none, 0, 0⟩ ⟨none, 0, 0⟩ ⟨none, 0, 0⟩, ⟨none, [], 0⟩]) (C := []) (by simpa using a1)
    have a3 := Wf.ph (A := B ++ [tbE r5 ⟨some (Addr.mk r3 0 none), N, N⟩ ⟨none, 0, 0⟩ ⟨none, 0, 0⟩ ⟨none, 0, 0⟩, ⟨none, [], 0⟩, ⟨none, [], 0⟩]) (C := []) (by simpa using a2)
    simpa using a3
  · rintro m _ i _ ⟨k, sH, sA, sD, eH, eA, eD, rfl, hk, rfl, rfl, hw, oH, oA, oD⟩
    have lH := oH.sl_len
    have lA := oA.sl_len
    have lD := oD.sl_len
    rw [ints_length, rm_len] at lH lA lD
    refine VIf_dec (fun hi => ?_) (fun hi => gi ⟨sH, sA, sD, eH, eA, eD, rfl, hw, ?_⟩)
    rotate_left
    · rw [show N = k by omega]; exact ⟨oH, oA, oD⟩
    have m5 : ∀ {a b c d : SV} {X : List Ent}, tbE r5 a b c d ∈ B ++ tbE r5 a b c d :: X := by simp
    have sn : ∀ {f : Nat → Int}, ints (rm k f) ++ [Value.int .i64 (f k)] = ints (rm (k + 1) f) := by intro f; rw [rm_succ]; simp [ints, intV]
    refine rS0 (tbE r5 ⟨some (Addr.mk r3 0 none), N, N⟩ sH sA sD) m5 rfl rfl ?_
    refine app_rowW grows_ints (vs := [.int .i64 1]) rfl ⟨rfl, trivial⟩ (B ++ [tbE r5 ⟨some (Addr.mk r3 0 none), N, N⟩ sH sA sD, eH, eA]) eD [] (by simp) oD hw (by omega) (fun sD' eD' oD' _ hwD => ?_)
    rw [sn (f := fun _ => 1)] at oD'
    simp only [List.append_assoc, List.cons_append, List.nil_append] at hwD ⊢
    refine tb_w ⟨some (Addr.mk r3 0 none), N, N⟩ sH sA sD' rfl (by decide) rfl ⟨⟨by omega, by omega⟩, ?_⟩
    have hwD2 : Wf ⟨B ++ tbE r5 ⟨some (Addr.mk r3 0 none), N, N⟩ sH sA sD' :: [eH, eA, eD'], ro⟩ := hwD.ids (by simp [tbE])
    -- both further rows
    have both : ∀ {w a : Int} {K : H → Prop}, w = (t.w k : Int) → a = (t.a k : Int) → (∀ sH' sA' eH' eA', Wf ⟨B ++ tbE r5 ⟨some (Addr.mk r3 0 none), N, N⟩ sH' sA' sD' :: [eH', eA', eD'], ro⟩ → OwnsSl 1 sH' eH' (ints (rm (k + 1) fun k => (t.w k : Int))) → OwnsSl 1 sA' eA' (ints (rm (k + 1) fun k => (t.a k : Int))) → K ⟨B ++ tbE r5 ⟨some (Addr.mk r3 0 none), N, N⟩ sH' sA' sD' :: [eH', eA', eD'], ro⟩) →
        In64 a → ∃ x24 : SV, H.rd ⟨B ++ tbE r5 ⟨some (Addr.mk r3 0 none), N, N⟩ sH sA sD' :: [eH, eA, eD'], ro⟩ (Addr.add (Addr.add (Addr.mk r5 0 none) 1) 0) (.slice x24.a x24.len x24.cap) ∧ H.new ⟨B ++ tbE r5 ⟨some (Addr.mk r3 0 none), N, N⟩ sH sA sD' :: [eH, eA, eD'], ro⟩ [.int .i64 w] fun r22 h23 =>
          appVC Tryd.prog 29 (.slice x24.a x24.len x24.cap) (.slice (some (Addr.mk r22 0 none)) 1 1) h23 fun x24 h25 => H.wr h25 (Addr.add (Addr.mk r5 0 none) 1) [.slice x24.a x24.len x24.cap] fun h26 =>
          ∃ x27 : SV, H.rd h26 (Addr.add (Addr.add (Addr.mk r5 0 none) 2) 0) (.slice x27.a x27.len x27.cap) ∧ In64 a ∧ H.new h26 [.int .i64 a] fun r28 h29 => appVC Tryd.prog 29 (.slice x27.a x27.len x27.cap) (.slice (some (Addr.mk r28 0 none)) 1 1) h29 fun x30 h31 =>
          H.wr h31 (Addr.add (Addr.mk r5 0 none) 2) [.slice x30.a x30.len x30.cap] K := by
      rintro _ _ K rfl rfl hK hia
      refine rS0 (tbE r5 ⟨some (Addr.mk r3 0 none), N, N⟩ sH sA sD') m5 rfl rfl ?_
      refine app_rowW grows_ints (vs := [.int .i64 (t.w k : Int)]) rfl ⟨rfl, trivial⟩ (B ++ [tbE r5 ⟨some (Addr.mk r3 0 none), N, N⟩ sH sA sD']) eH [eA, eD'] (by simp) oH hwD2 (by omega) (fun sH' eH' oH' _ hwH => ?_)
      rw [sn (f := fun k => (t.w k : Int))] at oH'
      simp only [List.append_assoc, List.cons_append, List.nil_append] at hwH ⊢
      refine tb_w ⟨some (Addr.mk r3 0 none), N, N⟩ sH' sA sD' rfl (by decide) rfl ?_
      have hwH2 : Wf ⟨B ++ tbE r5 ⟨some (Addr.mk r3 0 none), N, N⟩ sH' sA sD' :: [eH', eA, eD'], ro⟩ := hwH.ids (by simp [tbE])
      refine rS0 (tbE r5 ⟨some (Addr.mk r3 0 none), N, N⟩ sH' sA sD') m5 rfl rfl ⟨hia, ?_⟩
      refine app_rowW grows_ints (vs := [.int .i64 (t.a k : Int)]) rfl ⟨rfl, trivial⟩ (B ++ [tbE r5 ⟨some (Addr.mk r3 0 none), N, N⟩ sH' sA sD', eH']) eA [eD'] (by simp) oA hwH2 (by omega) (fun sA' eA' oA' _ hwA => ?_)
      rw [sn (f := fun k => (t.a k : Int))] at oA'
      simp only [List.append_assoc, List.cons_append, List.nil_append] at hwA ⊢
      refine tb_w ⟨some (Addr.mk r3 0 none), N, N⟩ sH' sA' sD' rfl (by decide) rfl ?_
      exact hK sH' sA' eH' eA' (hwA.ids (by simp [tbE])) oH' oA'
    have nx : nxt N k = if k = N - 1 then 0 else k + 1 := by
      unfold nxt
      split
      · rename_i h; rw [h, show N - 1 + 1 = N by omega, Nat.mod_self]
      · rw [Nat.mod_eq_of_lt (by omega)]
    have tw : t.w k = if nxt N k < k then nxt N k else k := by rw [ht]; rfl
    have ta : t.a k = if nxt N k > k then nxt N k else k := by rw [ht]; rfl
    refine VIf_eq (fun hl => both (w := 0) (a := (N : Int) - 1) ?_ ?_ (fun sH' sA' eH' eA' hw' oH' oA' => ⟨⟨by omega, by omega⟩, N - (k + 1), by omega, gi ⟨k + 1, sH', sA', sD', eH', eA', eD', by omega, by omega, rfl, rfl, hw', oH', oA', oD'⟩⟩) ⟨by omega, by omega⟩)
      (fun hl => both (w := (k : Int)) (a := (k : Int) + 1) ?_ ?_ (fun sH' sA' eH' eA' hw' oH' oA' => ⟨⟨by omega, by omega⟩, N - (k + 1), by omega, gi ⟨k + 1, sH', sA', sD', eH', eA', eD', by omega, by omega, rfl, rfl, hw', oH', oA', oD'⟩⟩) ⟨by omega, by omega⟩)
    · have hn : nxt N k = 0 := by rw [nx]; exact if_pos (by omega)
      rw [tw, hn, if_pos (by omega)]; rfl
    · have hn : nxt N k = 0 := by rw [nx]; exact if_pos (by omega)
      rw [ta, hn, if_neg (by omega)]; omega
    · have hn : nxt N k = k + 1 := by rw [nx]; exact if_neg (by omega)
      rw [tw, hn, if_neg (by omega)]
    · have hn : nxt N k = k + 1 := by rw [nx]; exact if_neg (by omega)
      rw [ta, hn, if_pos (by omega)]; omega
  rintro _ _ ⟨sH, sA, sD, eH, eA, eD, rfl, hw, oH, oA, oD⟩
  refine tb_get (r := r5) (a0 := ⟨some (Addr.mk r3 0 none), N, N⟩) (a1 := sH) (a2 := sA) (a3 := sD) (by simp) ?_
  refine tb_put (r := r1) (a0 := ⟨some (Addr.mk r3 0 none), N, N⟩) (a1 := sH) (a2 := sA) (a3 := sD) (z0 := ⟨none, 0, 0⟩) (z1 := ⟨none, 0, 0⟩) (z2 := ⟨none, 0, 0⟩) (z3 := ⟨none, 0, 0⟩) own (⟨some r3, ints (List.replicate N 0), N⟩ :: tbE r5 ⟨some (Addr.mk r3 0 none), N, N⟩ sH sA sD :: [eH, eA, eD]) (by rw [hB]; simp) ?_
  refine tb_get (r := r1) (a0 := ⟨some (Addr.mk r3 0 none), N, N⟩) (a1 := sH) (a2 := sA) (a3 := sD) (by simp) ?_
  have hwz : Wf ⟨own ++ [⟨some r3, ints (List.replicate N 0), N⟩, eH, eA, eD], ro⟩ := hw.sub (by rw [hB]; simp)
  obtain ⟨ro', g, m, r⟩ := frzE (own := own) [⟨some r3, ints (List.replicate N 0), N⟩, eH, eA, eD] ro hwz
  refine ⟨⟨own, ro'⟩, (Gh.drop (by simp)).trans g, hk _ _ _ _ ro' m ⟨?_, ?_, ?_, ?_⟩⟩
  · have e : rm (tab0 N).n (tab0 N).g = List.replicate N 0 := by
      show rm N (fun _ => (0 : Int)) = List.replicate N 0
      refine List.ext_getElem? fun k => ?_
      by_cases hk : k < N
      · rw [rm_get _ hk, List.getElem?_replicate, if_pos hk]
      · rw [List.getElem?_eq_none (by rw [rm_len]; omega), List.getElem?_eq_none (by simp; omega)]
    rw [e]
    exact r ⟨some r3, ints (List.replicate N 0), N⟩ (by simp) _ _ (OwnsSl.at0 1 (by simp [ints]) (by omega) (by simp only [maxLen]; omega))
  · rw [← ht, show t.n = N by rw [ht]; rfl]; exact r eH (by simp) _ _ oH
  · rw [← ht, show t.n = N by rw [ht]; rfl]; exact r eA (by simp) _ _ oA
  · rw [show (tab0 N).n = N from rfl, show (fun k => if (tab0 N).d k then (1 : Int) else 0) = fun _ => 1 from rfl]; exact r eD (by simp) _ _ oD
end Go.Proofs.YtiaopgnnibidlaaDoor
