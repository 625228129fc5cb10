import Derived.Test.YtockhbbpcbcenaaDoorDb
namespace Go.Proofs.YtockhbbpcbcenaaDoor
open Go.Eng
set_option maxRecDepth 20000
/-! ### the document's comb cleared, new, and crashed -/
theorem new2w {own : List Ent} {ro : Addr → Option Value} {c1 c2 : List Value} {n1 n2 : Nat} {K : Nat → Nat → H → Prop} (hw : Wf ⟨own, ro⟩) (h1 : c1.length = n1) (h2 : c2.length = n2) (h : ∀ r1 r3, Wf ⟨own ++ [⟨some r1, c1, n1⟩, ⟨some r3, c2, n2⟩], ro⟩ → K r1 r3 ⟨own ++ [⟨some r1, c1, n1⟩, ⟨some r3, c2, n2⟩], ro⟩) :
    H.new ⟨own, ro⟩ c1 fun r1 h2 => H.new h2 c2 fun r3 h4 => K r1 r3 h4 := by
  intro r1 f1 r3 f3
  subst h1 h2
  have hw1 := hw.add (e := ⟨some r1, c1, c1.length⟩) f1 rfl
  have hw3 := hw1.add (e := ⟨some r3, c2, c2.length⟩) f3 rfl
  have e : own ++ [⟨some r1, c1, c1.length⟩] ++ [⟨some r3, c2, c2.length⟩] = own ++ [⟨some r1, c1, c1.length⟩, ⟨some r3, c2, c2.length⟩] := by simp
  rw [e] at hw3
  have := h r1 r3 hw3
  rw [← e] at this
  exact this
structure ZR (ro : Addr → Option Value) (n : Nat) (As At Ad Nu : SV) : Prop where
  ak : ∃ rc, RdRowsOf ⟨[], ro⟩ As rc ∧ rc.map Prod.snd = List.replicate n [0, 0]
  ln : RdSl ⟨[], ro⟩ At (ints (List.replicate n 0))
  ad : RdSl ⟨[], ro⟩ Ad (ints (List.replicate n 0))
  nu : RdSl ⟨[], ro⟩ Nu (ints (List.replicate n 0))
def ccZ (r : Nat) : Ent := ccE r 0 ⟨none, 0, 0⟩ ⟨none, 0, 0⟩ 0 0 ⟨none, 0, 0⟩ ⟨none, 0, 0⟩ ⟨none, 0, 0⟩ ⟨none, 0, 0⟩
set_option maxHeartbeats 2000000 in
theorem ref4_cleared_c {n : Nat} {W K : Int} {Nw Su As At Ad Nu : SV} {own : List Ent} {ro : Addr → Option Value} {post : Value → H → Prop} (hn : n ≤ 4)
    (hk : ∀ As' At' Ad' Nu' ro', (∀ a v, ro a = some v → ro' a = some v) → ZR ro' n As' At' Ad' Nu' → post (.agg (List.toArray (ccC n Nw Su W 0 As' At' Ad' Nu'))) ⟨own, ro'⟩) :
    SemCall Tryd.prog 20 (List.toArray [.agg (List.toArray (ccC n Nw Su W K As At Ad Nu))]) ⟨own, ro⟩ post := by
  refine SemCall.wf (fun hw => ?_)
  refine f20_call _ _ _ _ _ _ _ _ _ _ post ?_
  refine new2w hw (n1 := 9) (n2 := 9) rfl rfl (fun r1 r3 hw3 => ?_)
  refine cc_w n Nw Su W 0 As At Ad Nu rfl (by decide) rfl (cc_w n Nw Su W 0 ⟨none, 0, 0⟩ At Ad Nu rfl (by decide) rfl ?_)
  have hw3 : Wf ⟨own ++ [ccE r1 n Nw Su W 0 ⟨none, 0, 0⟩ At Ad Nu, ccZ r3], ro⟩ := hw3.ids (by simp [ccE, ccZ])
  refine ⟨fun h => ∃ (s : SV) (en : Ent) (X : List Ent) (ss : List SV), h = ⟨own ++ ccE r1 n Nw Su W 0 s At Ad Nu :: ccZ r3 :: en :: X, ro⟩ ∧ Wf h ∧ OwnsSl 1 s en (ss.map svV) ∧ OwPar X ss (List.replicate n [0, 0]),
    ⟨fun m i h => ∃ k : Nat, i = k ∧ k ≤ n ∧ m = n - k ∧ ∃ (s : SV) (en : Ent) (X : List Ent) (ss : List SV), h = ⟨own ++ ccE r1 n Nw Su W 0 s At Ad Nu :: ccZ r3 :: en :: X, ro⟩ ∧ Wf h ∧ OwnsSl 1 s en (ss.map svV) ∧ OwPar X ss (List.replicate k [0, 0]),
      ⟨n, ⟨own ++ ccE r1 n Nw Su W 0 ⟨none, 0, 0⟩ At Ad Nu :: ccZ r3 :: ⟨none, [], 0⟩ :: [], ro⟩, by have := Gh.phantom (own ++ [ccE r1 n Nw Su W 0 ⟨none, 0, 0⟩ At Ad Nu, ccZ r3]) [] ro 0; simp only [List.append_assoc, List.cons_append, List.nil_append, List.append_nil] at this; exact this, 0, rfl, Nat.zero_le _, rfl, ⟨none, 0, 0⟩, ⟨none, [], 0⟩, [], [], rfl, by simpa using Wf.ph (A := own ++ [ccE r1 n Nw Su W 0 ⟨none, 0, 0⟩ At Ad Nu, ccZ r3]) (C := []) (by simpa using hw3), OwnsSl.nil 1, OwPar.nil⟩, ?_⟩, ?_⟩
  · rintro m _ i _ ⟨k, rfl, hkn, rfl, s, en, X, ss, rfl, hw4, o, par⟩
    refine rI0 (ccE r1 n Nw Su W 0 s At Ad Nu) (by simp) rfl rfl (VIf_dec (fun hlt => ?_) (fun hge => ?_))
    rotate_left
    · obtain rfl : k = n := by omega
      exact gi ⟨s, en, X, ss, rfl, hw4, o, par⟩
    have hs := o.sl_len
    have l1 := par.l2
    rw [List.length_replicate] at l1
    rw [List.length_map] at hs
    refine rS0 (ccE r1 n Nw Su W 0 s At Ad Nu) (by simp) rfl rfl ?_
    intro r16 f16
    have hw5 := hw4.add (e := ⟨some r16, [.int .i64 0, .int .i64 0], 2⟩) f16 rfl
    refine app_rowW grows_rows (vs := [.slice (some (Addr.mk r16 0 none)) 2 2]) rfl ⟨rfl, trivial⟩ (own ++ [ccE r1 n Nw Su W 0 s At Ad Nu, ccZ r3]) en (X ++ [⟨some r16, [.int .i64 0, .int .i64 0], 2⟩]) (by simp) o hw5 (by omega) (fun s' en' o' l' hw6 => ?_)
    simp only [List.append_assoc, List.cons_append, List.nil_append] at hw6 ⊢
    refine cc_w n Nw Su W 0 s' At Ad Nu rfl (by decide) rfl ⟨⟨by omega, by omega⟩, n - (k + 1), by omega, gi ⟨k + 1, by omega, by omega, rfl, s', en', X ++ [⟨some r16, [.int .i64 0, .int .i64 0], 2⟩], ss ++ [⟨some (Addr.mk r16 0 none), 2, 2⟩], rfl, hw6.ids (by simp [ccE]), by simpa [svV] using o', ?_⟩⟩
    rw [List.replicate_succ']
    exact par.app (OwnsSl.at0 1 (by simp [ints]) (by simp) (by simp [maxLen]))
  rintro _ _ ⟨s, en, X, ss, rfl, hw4, o, par⟩
  have cn : 0 ≤ (n : Int) ∧ (n : Int) ≤ (n : Int) ∧ ((8 : Nat) : Int) * (n : Int) ≤ 140737488355328 ∧ (n : Int) ≤ 1000000000 := ⟨by omega, Int.le_refl _, by omega, by omega⟩
  refine rI0 (ccE r1 n Nw Su W 0 s At Ad Nu) (by simp) rfl rfl ⟨cn.1, cn.2.1, cn.2.2.1, cn.2.2.2, mk1 hw4 (fun ra hwa => ?_)⟩
  simp only [List.append_assoc, List.cons_append, List.nil_append, Int.toNat_natCast] at hwa ⊢
  refine cc_w n Nw Su W 0 s ⟨some (Addr.mk ra 0 none), n, n⟩ Ad Nu rfl (by decide) rfl ?_
  have hwa := hwa.ids (own' := own ++ ccE r1 n Nw Su W 0 s ⟨some (Addr.mk ra 0 none), n, n⟩ Ad Nu :: ccZ r3 :: en :: (X ++ [⟨some ra, ints (List.replicate n 0), n⟩])) (by simp [ccE])
  refine rI0 (ccE r1 n Nw Su W 0 s ⟨some (Addr.mk ra 0 none), n, n⟩ Ad Nu) (by simp) rfl rfl ⟨cn.1, cn.2.1, cn.2.2.1, cn.2.2.2, mk1 (N := n) hwa (fun rb hwb => ?_)⟩
  simp only [List.append_assoc, List.cons_append, List.nil_append, Int.toNat_natCast] at hwb ⊢
  refine cc_w n Nw Su W 0 s ⟨some (Addr.mk ra 0 none), n, n⟩ ⟨some (Addr.mk rb 0 none), n, n⟩ Nu rfl (by decide) rfl ?_
  have hwb := hwb.ids (own' := own ++ ccE r1 n Nw Su W 0 s ⟨some (Addr.mk ra 0 none), n, n⟩ ⟨some (Addr.mk rb 0 none), n, n⟩ Nu :: ccZ r3 :: en :: (X ++ [⟨some ra, ints (List.replicate n 0), n⟩, ⟨some rb, ints (List.replicate n 0), n⟩])) (by simp [ccE])
  refine rI0 (ccE r1 n Nw Su W 0 s ⟨some (Addr.mk ra 0 none), n, n⟩ ⟨some (Addr.mk rb 0 none), n, n⟩ Nu) (by simp) rfl rfl ⟨cn.1, cn.2.1, cn.2.2.1, cn.2.2.2, mk1 (N := n) hwb (fun rc hwc => ?_)⟩
  simp only [List.append_assoc, List.cons_append, List.nil_append, Int.toNat_natCast] at hwc ⊢
  refine cc_w n Nw Su W 0 s ⟨some (Addr.mk ra 0 none), n, n⟩ ⟨some (Addr.mk rb 0 none), n, n⟩ ⟨some (Addr.mk rc 0 none), n, n⟩ rfl (by decide) rfl ?_
  refine cc_get (r := r1) (a0 := n) (a1 := Nw) (a2 := Su) (a3 := W) (a4 := 0) (a5 := s) (a6 := ⟨some (Addr.mk ra 0 none), n, n⟩) (a7 := ⟨some (Addr.mk rb 0 none), n, n⟩) (a8 := ⟨some (Addr.mk rc 0 none), n, n⟩) (by simp) ?_
  refine cc_put (r := r3) (a0 := n) (a1 := Nw) (a2 := Su) (a3 := W) (a4 := 0) (a5 := s) (a6 := ⟨some (Addr.mk ra 0 none), n, n⟩) (a7 := ⟨some (Addr.mk rb 0 none), n, n⟩) (a8 := ⟨some (Addr.mk rc 0 none), n, n⟩) (z0 := 0) (z1 := ⟨none, 0, 0⟩) (z2 := ⟨none, 0, 0⟩) (z3 := 0) (z4 := 0) (z5 := ⟨none, 0, 0⟩) (z6 := ⟨none, 0, 0⟩) (z7 := ⟨none, 0, 0⟩) (z8 := ⟨none, 0, 0⟩) (own ++ [ccE r1 n Nw Su W 0 s ⟨some (Addr.mk ra 0 none), n, n⟩ ⟨some (Addr.mk rb 0 none), n, n⟩ ⟨some (Addr.mk rc 0 none), n, n⟩]) (en :: (X ++ [⟨some ra, ints (List.replicate n 0), n⟩, ⟨some rb, ints (List.replicate n 0), n⟩, ⟨some rc, ints (List.replicate n 0), n⟩])) (by simp [ccZ]) ?_
  refine cc_get (r := r3) (a0 := n) (a1 := Nw) (a2 := Su) (a3 := W) (a4 := 0) (a5 := s) (a6 := ⟨some (Addr.mk ra 0 none), n, n⟩) (a7 := ⟨some (Addr.mk rb 0 none), n, n⟩) (a8 := ⟨some (Addr.mk rc 0 none), n, n⟩) (by simp) ?_
  have hwf : Wf ⟨own ++ (en :: (X ++ [⟨some ra, ints (List.replicate n 0), n⟩, ⟨some rb, ints (List.replicate n 0), n⟩, ⟨some rc, ints (List.replicate n 0), n⟩])), ro⟩ := hwc.sub (List.Sublist.append_left ((List.sublist_cons_self _ _).trans (List.sublist_cons_self _ _)) _)
  obtain ⟨ro', g, m, r⟩ := frzE (own := own) _ ro hwf
  have z : ∀ {x : Nat}, (⟨some x, ints (List.replicate n 0), n⟩ : Ent) ∈ en :: (X ++ [⟨some ra, ints (List.replicate n 0), n⟩, ⟨some rb, ints (List.replicate n 0), n⟩, ⟨some rc, ints (List.replicate n 0), n⟩]) → RdSl ⟨[], ro'⟩ ⟨some (Addr.mk x 0 none), n, n⟩ (ints (List.replicate n 0)) := fun hx => r _ hx _ _ (OwnsSl.at0 1 (by simp [ints]) (by simp) (by simp only [maxLen]; omega))
  refine ⟨⟨own, ro'⟩, (Gh.drop (own' := own ++ (en :: (X ++ [⟨some ra, ints (List.replicate n 0), n⟩, ⟨some rb, ints (List.replicate n 0), n⟩, ⟨some rc, ints (List.replicate n 0), n⟩]))) (by simp only [List.append_assoc, List.cons_append, List.nil_append]; exact List.Sublist.append_left ((List.sublist_cons_self _ _).trans (List.sublist_cons_self _ _)) _)).trans g, hk _ _ _ _ ro' m ⟨?_, z (by simp), z (by simp), z (by simp)⟩⟩
  exact par.rd (r en (.head _) _ _ o) (fun e he s xs o => r e (by simp [he]) s xs o)
theorem ask_zero (n : Nat) (c : CS) (h1 : ∀ p, c.aA p = 0) (h2 : ∀ p, c.aN p = 0) : List.replicate n [0, 0] = askL n c := by
  unfold askL
  simp only [h1, h2]
  rw [List.map_const', List.length_range]
theorem ZR.cc {ro : Addr → Option Value} {n : Nat} {As At Ad Nu : SV} (z : ZR ro n As At Ad Nu) {c : CS} {Nw Su : SV} (h1 : ∀ p, c.aA p = 0) (h2 : ∀ p, c.aN p = 0) (h3 : ∀ p, c.hL p = 0) (nw : TwoR ro Nw n c.S c.D c.G) (su : TwoR ro Su n c.sS c.sD c.sG) : CcR ro n c Nw Su As At Ad Nu := by
  obtain ⟨⟨rc, a1, a2⟩, b, d, e⟩ := z
  have e3 : c.hL = fun _ => 0 := funext h3
  exact ⟨nw, su, ⟨rc, a1, by rw [a2]; exact ask_zero n c h1 h2⟩, by rw [e3, rm_rep]; exact b, ⟨fun _ => 0, by rw [rm_rep]; exact d, fun p _ hl => absurd (h3 p) hl⟩, ⟨fun _ => 0, by rw [rm_rep]; exact e, fun p _ hl => absurd (h3 p) hl⟩⟩
theorem ref4_new_c {n : Nat} {own : List Ent} {ro : Addr → Option Value} {post : Value → H → Prop} (hn : n ≤ 4)
    (hk : ∀ Nw Su As At Ad Nu ro', (∀ a v, ro a = some v → ro' a = some v) → CcR ro' n (cs0 n) Nw Su As At Ad Nu → post (.agg (List.toArray (ccC n Nw Su 0 0 As At Ad Nu))) ⟨own, ro'⟩) :
    SemCall Tryd.prog 6 (List.toArray [.int .i64 (n : Int)]) ⟨own, ro⟩ post := by
  refine f6_call _ _ post ?_
  intro r1 _
  refine ref4_halves_c hn (fun Nw ro1 q1 h1 => ⟨Nw, rfl, ref4_halves_c hn (fun Su ro2 q2 h2 => ⟨Su, rfl, ?_⟩)⟩)
  refine ref4_cleared_c (W := 0) (K := 0) (Nw := Nw) (Su := Su) (As := ⟨none, 0, 0⟩) (At := ⟨none, 0, 0⟩) (Ad := ⟨none, 0, 0⟩) (Nu := ⟨none, 0, 0⟩) hn (fun As At Ad Nu ro3 q3 z => ⟨n, Nw, Su, 0, 0, As, At, Ad, Nu, rfl, ?_⟩)
  refine cc_put (r := r1) (a0 := n) (a1 := Nw) (a2 := Su) (a3 := 0) (a4 := 0) (a5 := As) (a6 := At) (a7 := Ad) (a8 := Nu) (z0 := 0) (z1 := ⟨none, 0, 0⟩) (z2 := ⟨none, 0, 0⟩) (z3 := 0) (z4 := 0) (z5 := ⟨none, 0, 0⟩) (z6 := ⟨none, 0, 0⟩) (z7 := ⟨none, 0, 0⟩) (z8 := ⟨none, 0, 0⟩) own [] rfl ?_
  refine cc_get (r := r1) (a0 := n) (a1 := Nw) (a2 := Su) (a3 := 0) (a4 := 0) (a5 := As) (a6 := At) (a7 := Ad) (a8 := Nu) (by simp) ?_
  exact ⟨⟨own, ro3⟩, Gh.drop (by simp), hk Nw Su As At Ad Nu ro3 (fun a v h => q3 a v (q2 a v (q1 a v h))) (z.cc (fun _ => rfl) (fun _ => rfl) (fun _ => rfl) (h1.up (fun a v h => q3 a v (q2 a v h))) (h2.up q3))⟩
theorem ref4_crash_c {n : Nat} {c : CS} {keep : Bool} {Nw Su As At Ad Nu : SV} {own : List Ent} {ro : Addr → Option Value} {post : Value → H → Prop} (hr : CcR ro n c Nw Su As At Ad Nu) (hn : n ≤ 4)
    (hk : ∀ Nw' Su' As' At' Ad' Nu' ro', (∀ a v, ro a = some v → ro' a = some v) → CcR ro' n (csCrash c keep) Nw' Su' As' At' Ad' Nu' → post (.agg (List.toArray (ccC n Nw' Su' c.W 0 As' At' Ad' Nu'))) ⟨own, ro'⟩) :
    SemCall Tryd.prog 11 (List.toArray [.agg (List.toArray (ccC n Nw Su c.W c.K As At Ad Nu)), .bool keep]) ⟨own, ro⟩ post := by
  refine f11_call _ _ _ _ _ _ _ _ _ _ _ post ?_
  refine new2 (n1 := 9) (n2 := 9) rfl rfl (fun r1 r3 => ?_)
  refine ⟨fun h => ∃ Su', h = ⟨own ++ ccE r1 n Nw Su' c.W c.K As At Ad Nu :: ccZ r3 :: [], ro⟩ ∧ TwoR ro Su' n (if keep then c.S else c.sS) (if keep then c.D else c.sD) (if keep then c.G else c.sG), VIf_b (fun hkp => ?_) (fun hkp => gi ⟨Su, rfl, by rw [hkp]; exact hr.su⟩), ?_⟩
  · exact rS0 (ccE r1 n Nw Su c.W c.K As At Ad Nu) (by simp [ccE, ccC]) rfl rfl (cc_w n Nw Nw c.W c.K As At Ad Nu rfl (by decide) rfl (gi ⟨Nw, rfl, by rw [hkp]; exact hr.nw⟩))
  rintro _ _ ⟨Su', rfl, hsu⟩
  refine rS0 (ccE r1 n Nw Su' c.W c.K As At Ad Nu) (by simp) rfl rfl (cc_w n Su' Su' c.W c.K As At Ad Nu rfl (by decide) rfl ?_)
  refine cc_get (r := r1) (a0 := n) (a1 := Su') (a2 := Su') (a3 := c.W) (a4 := c.K) (a5 := As) (a6 := At) (a7 := Ad) (a8 := Nu) (by simp) ?_
  refine ref4_cleared_c (Nw := Su') (Su := Su') hn (fun As' At' Ad' Nu' ro3 q3 z => ⟨n, Su', Su', c.W, 0, As', At', Ad', Nu', rfl, ?_⟩)
  refine cc_put (r := r3) (a0 := n) (a1 := Su') (a2 := Su') (a3 := c.W) (a4 := 0) (a5 := As') (a6 := At') (a7 := Ad') (a8 := Nu') (z0 := 0) (z1 := ⟨none, 0, 0⟩) (z2 := ⟨none, 0, 0⟩) (z3 := 0) (z4 := 0) (z5 := ⟨none, 0, 0⟩) (z6 := ⟨none, 0, 0⟩) (z7 := ⟨none, 0, 0⟩) (z8 := ⟨none, 0, 0⟩) (own ++ [ccE r1 n Su' Su' c.W c.K As At Ad Nu]) [] (by simp [ccZ]) ?_
  refine cc_get (r := r3) (a0 := n) (a1 := Su') (a2 := Su') (a3 := c.W) (a4 := 0) (a5 := As') (a6 := At') (a7 := Ad') (a8 := Nu') (by simp) ?_
  exact ⟨⟨own, ro3⟩, Gh.drop (by simp), hk Su' Su' As' At' Ad' Nu' ro3 q3 (z.cc (fun _ => rfl) (fun _ => rfl) (fun _ => rfl) (hsu.up q3) (hsu.up q3))⟩
end Go.Proofs.YtockhbbpcbcenaaDoor
