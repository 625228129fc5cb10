import Derived.Test.YtockhbbpcbcenaaDoorDd
namespace Go.Proofs.YtockhbbpcbcenaaDoor
open Go.Eng
set_option maxRecDepth 20000
set_option maxHeartbeats 4000000 in
theorem ref4_step_c {n : Nat} {c : CS} {i : Int} {k : Nat} {Nw Su As At Ad Nu : SV} {own : List Ent} {ro : Addr → Option Value} {post : Value → H → Prop} (hr : CcR ro n c Nw Su As At Ad Nu) (hc : CI c i) (hi : i ≤ 1000) (hn : c.n = n) (hk : k < n) (h0 : c.hL k ≠ 0)
    (hp : ∀ Nw' Su' As' At' ro', (∀ a v, ro a = some v → ro' a = some v) → CcR ro' n (cstp c k).1 Nw' Su' As' At' Ad Nu → post (ccS (cstp c k).2.1 (cstp c k).2.2 0 n Nw' Su' (cstp c k).1.W (cstp c k).1.K As' At' Ad Nu) ⟨own, ro'⟩) :
    SemCall Tryd.prog 9 (List.toArray [.agg (List.toArray (ccC n Nw Su c.W c.K As At Ad Nu)), .int .i64 (k : Int)]) ⟨own, ro⟩ post := by
  have n4 := hc.n4
  have hW := hc.w
  have hk4 : k < 4 := by omega
  have hln := hc.ln k hk4
  have i0 := hc.i0
  have m1 : ∀ {r1 : Nat} {x0 : Int} {x1 x2 : SV} {x3 x4 : Int} {x5 x6 x7 x8 : SV} {Z : List Ent}, ccE r1 x0 x1 x2 x3 x4 x5 x6 x7 x8 ∈ own ++ ccE r1 x0 x1 x2 x3 x4 x5 x6 x7 x8 :: Z := by simp
  refine SemCall.wf (fun hw => ?_)
  refine f9_call _ _ _ _ _ _ _ _ _ _ _ post ?_
  refine new2w hw (n1 := 9) (n2 := 9) rfl rfl (fun r1 r3 hw3 => ?_)
  refine rI0 (ccE r1 n Nw Su c.W c.K As At Ad Nu) m1 rfl rfl ⟨⟨by omega, by omega⟩, ref4_in_c ⟨_, rfl, VIf_not (fun h => absurd ⟨by omega, by omega⟩ h) (fun _ => ?_)⟩⟩
  refine rS0 (ccE r1 n Nw Su c.W c.K As At Ad Nu) m1 rfl rfl (rm_ati hr.ln hk rfl ⟨⟨by omega, by omega⟩, ?_⟩)
  have id0 : ∀ a v, ro a = some v → ro a = some v := fun _ _ h => h
  refine ⟨fun nx h => ∃ (c' : CS) (Nw' Su' As' : SV) (ro' : Addr → Option Value), h = ⟨own ++ ccE r1 n Nw' Su' c'.W c'.K As' At Ad Nu :: ccZ r3 :: [], ro'⟩ ∧ (∀ a v, ro a = some v → ro' a = some v) ∧ CcR ro' n c' Nw' Su' As' At Ad Nu ∧ c'.hL k ≠ 0 ∧ cstp c k = (cLn c' k nx, false, 0), ?_, ?_⟩
  rotate_left
  · rintro _ nx _ ⟨c', Nw', Su', As', ro', rfl, m, hr', h0', e⟩
    rw [e] at hp
    refine rS0 (ccE r1 n Nw' Su' c'.W c'.K As' At Ad Nu) m1 rfl rfl (ref4_upd_c hr'.ln (by omega) hk rfl (fun At' ro1 q1 ha' => ⟨At', rfl, cc_w n Nw' Su' c'.W c'.K As' At' Ad Nu rfl (by decide) rfl ?_⟩))
    exact cc_fin (own := own) (Y := []) (ro := ro1) (r1 := r1) (r3 := r3) (a0 := n) (a1 := Nw') (a2 := Su') (a3 := c'.W) (a4 := c'.K) (a5 := As') (a6 := At') (a7 := Ad) (a8 := Nu) (z0 := 0) (z1 := ⟨none, 0, 0⟩) (z2 := ⟨none, 0, 0⟩) (z3 := 0) (z4 := 0) (z5 := ⟨none, 0, 0⟩) (z6 := ⟨none, 0, 0⟩) (z7 := ⟨none, 0, 0⟩) (z8 := ⟨none, 0, 0⟩) (Q := ccS false 0 0) (post := post) (hp Nw' Su' As' At' ro1 (fun a v h => q1 a v (m a v h)) (hr'.lnn q1 h0' ha'))
  refine VIf_eq (fun h => absurd h h0) (fun _ => VIf_eq (fun h1 => ?_) (fun h1 => VIf_eq (fun h2 => ?_) (fun h2 => VIf_eq (fun h3 => ?_) (fun h3 => VIf_eq (fun h4 => ?_) (fun h4 => VIf_eq (fun h5 => ?_) (fun h5 => VIf_eq (fun h6 => ?_) (fun h6 => VIf_eq (fun h7 => ?_) (fun h7 => VIf_eq (fun h8 => ?_) (fun h8 => ?_)))))))))
  · -- what is asked
    obtain ⟨rc, a1, a2⟩ := hr.ak
    obtain ⟨f, f1, f2⟩ := hr.ad
    obtain ⟨g, g1, g2⟩ := hr.nu
    have hlen : As.len = n := by
      have := a1.1.len
      rw [List.length_map] at this
      have e := congrArg List.length a2
      rw [List.length_map] at e
      rw [this, e]; simp [askL]
    have hA : RdSl ⟨[], ro⟩ As ((rc.map Prod.fst).map svV) := by rw [List.map_map]; exact a1.1
    have hw3 : Wf ⟨own ++ [ccE r1 n Nw Su c.W c.K As At Ad Nu, ccZ r3], ro⟩ := hw3
    refine rS0 (ccE r1 n Nw Su c.W c.K As At Ad Nu) m1 rfl rfl ?_
    refine app_newW grows_rows (own := own ++ [ccE r1 n Nw Su c.W c.K As At Ad Nu, ccZ r3]) (hA.mono (by simp) id0) (allOne_svV _) hw3 (by omega) (fun s' e' o l' hw4 => ?_)
    simp only [List.append_assoc, List.cons_append, List.nil_append] at hw4 ⊢
    refine rS0 (ccE r1 n Nw Su c.W c.K As At Ad Nu) m1 rfl rfl (rm_ati f1 hk rfl (rS0 (ccE r1 n Nw Su c.W c.K As At Ad Nu) m1 rfl rfl (rm_ati g1 hk rfl ?_)))
    rw [f2 k hk h0, g2 k hk h0]
    intro r60 f60
    have hw5 := hw4.add (e := ⟨some r60, [.int .i64 (c.hA k), .int .i64 (c.hN k)], 2⟩) f60 rfl
    simp only [List.append_assoc, List.cons_append, List.nil_append] at hw5 ⊢
    refine wr_atM (f := svV) (v := ⟨some (Addr.mk r60 0 none), 2, 2⟩) (fun _ => rfl) (own ++ [ccE r1 n Nw Su c.W c.K As At Ad Nu, ccZ r3]) e' [⟨some r60, [.int .i64 (c.hA k), .int .i64 (c.hN k)], 2⟩] (by simp) o (by omega) (by omega) (fun e2 o2 id2 => ?_)
    simp only [List.append_assoc, List.cons_append, List.nil_append] at o2 ⊢
    refine cc_w n Nw Su c.W c.K s' At Ad Nu rfl (by decide) rfl ?_
    have hw6 : Wf ⟨(own ++ [ccE r1 n Nw Su c.W c.K s' At Ad Nu, ccZ r3]) ++ [e2, ⟨some r60, [.int .i64 (c.hA k), .int .i64 (c.hN k)], 2⟩], ro⟩ := hw5.ids (by simp [ccE, id2])
    obtain ⟨ro', gg, m, r⟩ := frzE (own := own ++ [ccE r1 n Nw Su c.W c.K s' At Ad Nu, ccZ r3]) _ ro hw6
    simp only [List.append_assoc, List.cons_append, List.nil_append] at gg
    refine ⟨_, gg, { c with aA := upd1 c.aA k (c.hA k), aN := upd1 c.aN k (c.hN k) }, Nw, Su, s', ro', rfl, m, ?_, h0, by unfold cstp; rw [if_pos h1, h1]; rfl⟩
    have hr' := hr.up m
    have rs := r e2 (by simp) _ _ o2
    have rk := r ⟨some r60, [.int .i64 (c.hA k), .int .i64 (c.hN k)], 2⟩ (by simp) ⟨some (Addr.mk r60 0 none), 2, 2⟩ (ints [c.hA k, c.hN k]) (OwnsSl.at0 1 (by simp [ints]) (by simp) (by simp [maxLen]))
    refine ⟨hr'.nw, hr'.su, ⟨rc.set k (⟨some (Addr.mk r60 0 none), 2, 2⟩, [c.hA k, c.hN k]), ⟨?_, fun x hx => ?_⟩, ?_⟩, hr'.ln, hr'.ad, hr'.nu⟩
    · rw [Int.toNat_natCast] at rs
      have e : (rc.set k (⟨some (Addr.mk r60 0 none), 2, 2⟩, [c.hA k, c.hN k])).map (fun r => Value.slice r.1.a r.1.len r.1.cap) = ((rc.map Prod.fst).set k ⟨some (Addr.mk r60 0 none), 2, 2⟩).map svV := by
        rw [← List.map_set (f := Prod.fst) (a := ((⟨some (Addr.mk r60 0 none), 2, 2⟩ : SV), [c.hA k, c.hN k])), List.map_map]; rfl
      rw [e]; exact rs
    · rcases List.mem_or_eq_of_mem_set hx with hx | rfl
      · exact (a1.2 x hx).mono (by simp) m
      · exact rk
    · rw [List.map_set, a2]
      exact askL_set n c k _ _
  · -- the lock
    refine rI0 (ccE r1 n Nw Su c.W c.K As At Ad Nu) m1 rfl rfl (VIf_eq (fun hK => ⟨⟨by omega, by omega⟩, cc_w n Nw Su c.W ((k : Int) + 1) As At Ad Nu rfl (by decide) rfl (gi ⟨{ c with K := (k : Int) + 1 }, Nw, Su, As, ro, rfl, id0, ⟨hr.nw, hr.su, hr.ak, hr.ln, hr.ad, hr.nu⟩, h0, by unfold cstp; rw [if_neg h1, if_pos h2, if_pos hK]⟩)⟩) (fun hK => gi ⟨c, Nw, Su, As, ro, rfl, id0, hr, h0, by unfold cstp; rw [if_neg h1, if_pos h2, if_neg hK, h2]; rfl⟩))
  · refine rI0 (ccE r1 n Nw Su c.W c.K As At Ad Nu) m1 rfl rfl (VIf_ne (fun hK => gi ⟨c, Nw, Su, As, ro, rfl, id0, hr, h0, by unfold cstp; rw [if_neg h1, if_neg h2, if_pos h3, if_neg hK]⟩) (fun hK => gi ⟨c, Nw, Su, As, ro, rfl, id0, hr, h0, by unfold cstp; rw [if_neg h1, if_neg h2, if_pos h3, if_pos hK, h3]; rfl⟩))
  · -- is it done?
    obtain ⟨g, g1, g2⟩ := hr.nu
    obtain ⟨bN, xN, hbN, hxN, rdN⟩ := two_rd hr.nw hW
    have lN := hr.nw.len
    have lx := rlen hxN
    obtain ⟨bX, hbX⟩ := hxN.addr (by rw [ints_length, rm_len]; omega)
    refine rS0 (ccE r1 n Nw Su c.W c.K As At Ad Nu) m1 rfl rfl (rI0 (ccE r1 n Nw Su c.W c.K As At Ad Nu) m1 rfl rfl ⟨bN, hbN, by omega, by omega, xN, rdN _ _ id0, ⟨by omega, by omega⟩, ⟨by omega, by omega⟩, rm_ati hxN (k := 1 + 2 * k) (by omega) (by omega) ?_⟩)
    rw [cF_d]
    refine rS0 (ccE r1 n Nw Su c.W c.K As At Ad Nu) m1 rfl rfl (rm_ati g1 hk rfl ?_)
    rw [g2 k hk h0]
    refine VIf_eq (fun hd => ?_) (fun hd => gi ⟨c, Nw, Su, As, ro, rfl, id0, hr, h0, by unfold cstp; rw [if_neg h1, if_neg h2, if_neg h3, if_pos h4, if_neg hd]⟩)
    have e : cstp c k = ({ c with hL := upd1 c.hL k 0, hA := upd1 c.hA k 0, hN := upd1 c.hN k 0 }, true, c.G c.W k) := by unfold cstp; rw [if_neg h1, if_neg h2, if_neg h3, if_pos h4, if_pos hd]
    rw [e] at hp
    refine rS0 (ccE r1 n Nw Su c.W c.K As At Ad Nu) m1 rfl rfl (ref4_upd_c hr.ln (by omega) hk rfl (fun At' ro1 q1 ha' => ⟨At', rfl, cc_w n Nw Su c.W c.K As At' Ad Nu rfl (by decide) rfl ⟨⟨by omega, by omega⟩, ⟨by omega, by omega⟩, ?_⟩⟩))
    have hend := hp Nw Su As At' ro1 q1 (hr.dn q1 ha')
    have rX : ∀ {own : List Ent}, H.rd ⟨own, ro1⟩ (Addr.add (Addr.add bX ((2 + 2 * (k : Int)).toNat * 1)) 0) (Value.int .i64 (c.G c.W k)) := fun {own} => by
      have := rm_rd (own := own) hxN q1 hbX (k := 2 + 2 * k) (i := 2 + 2 * (k : Int)) (by omega) (by omega)
      rwa [cF_g] at this
    have rN : ∀ {own : List Ent}, H.rd ⟨own, ro1⟩ (Addr.add (Addr.add bN (((c.W : Nat) : Int).toNat * 1)) 0) (Value.slice xN.a xN.len xN.cap) := fun {own} => rdN own ro1 q1
    repeat' first
      | refine ⟨bN, hbN, by omega, by omega, ?_⟩
      | refine ⟨bX, hbX, by omega, by omega, ?_⟩
      | refine ⟨xN, rN, ?_⟩
      | refine ⟨c.G c.W k, rX, ?_⟩
      | refine rS0 (ccE r1 n Nw Su c.W c.K As At' Ad Nu) (by simp) rfl rfl ?_
      | refine rI0 (ccE r1 n Nw Su c.W c.K As At' Ad Nu) (by simp) rfl rfl ?_
      | refine cc_get (r := r1) (a0 := n) (a1 := Nw) (a2 := Su) (a3 := c.W) (a4 := c.K) (a5 := As) (a6 := At') (a7 := Ad) (a8 := Nu) (by simp) ?_
      | refine cc_get (r := r3) (a0 := n) (a1 := Nw) (a2 := Su) (a3 := c.W) (a4 := c.K) (a5 := As) (a6 := At') (a7 := Ad) (a8 := Nu) (by simp) ?_
      | refine cc_put (r := r3) (a0 := n) (a1 := Nw) (a2 := Su) (a3 := c.W) (a4 := c.K) (a5 := As) (a6 := At') (a7 := Ad) (a8 := Nu) (z0 := 0) (z1 := ⟨none, 0, 0⟩) (z2 := ⟨none, 0, 0⟩) (z3 := 0) (z4 := 0) (z5 := ⟨none, 0, 0⟩) (z6 := ⟨none, 0, 0⟩) (z7 := ⟨none, 0, 0⟩) (z8 := ⟨none, 0, 0⟩) (own ++ [ccE r1 n Nw Su c.W c.K As At' Ad Nu]) [] (by simp; rfl) ?_
      | exact ⟨⟨own, ro1⟩, Gh.drop (by simp), hend⟩
      | refine ⟨?_, ?_⟩
  · -- all that is asked, summed up
    refine rS0 (ccE r1 n Nw Su c.W c.K As At Ad Nu) m1 rfl rfl (rI0 (ccE r1 n Nw Su c.W c.K As At Ad Nu) m1 rfl rfl (two_at hr.nw hW rfl (fun x0 hx0 => ?_)))
    refine ⟨fun x h => ∃ ro', (∀ a v, ro a = some v → ro' a = some v) ∧ h = ⟨own ++ ccE r1 n Nw Su c.W c.K As At Ad Nu :: ccZ r3 :: [], ro'⟩ ∧ RdSl ⟨[], ro'⟩ x (ints (rm (1 + 2 * n) (sF c n))),
      ⟨fun m x q h => ∃ j : Nat, q = j ∧ j ≤ n ∧ m = n - j ∧ ∃ ro', (∀ a v, ro a = some v → ro' a = some v) ∧ h = ⟨own ++ ccE r1 n Nw Su c.W c.K As At Ad Nu :: ccZ r3 :: [], ro'⟩ ∧ RdSl ⟨[], ro'⟩ x (ints (rm (1 + 2 * n) (sF c j))),
        ⟨n, gi ⟨0, rfl, Nat.zero_le _, rfl, ro, id0, rfl, by rw [sF_zero]; exact hx0⟩⟩, ?_⟩, ?_⟩
    · rintro m _ x q _ ⟨j, rfl, hj, rfl, ro', mm, rfl, hx⟩
      refine rI0 (ccE r1 n Nw Su c.W c.K As At Ad Nu) m1 rfl rfl (VIf_dec (fun hlt => ?_) (fun hge => ?_))
      rotate_left
      · obtain rfl : j = n := by omega
        exact gi ⟨ro', mm, rfl, hx⟩
      have hjn : j < n := by omega
      have hr' := hr.up mm
      have bD := hc.bD c.W j hW (by omega)
      have bS := hc.bS c.W hW
      have ba := hc.a j (by omega)
      have bd := dsum_ok (D := c.D c.W) (D' := c.aN) (a := c.aA) j (fun p hp => ⟨(hc.a p (by omega)).1, (hc.a p (by omega)).2.1⟩)
      have lx := rlen hx
      obtain ⟨bX, hbX⟩ := hx.addr (by rw [ints_length, rm_len]; omega)
      have v0 : sF c j 0 = c.S c.W + dsum (c.D c.W) c.aN c.aA j := rfl
      have v1 : sF c j (1 + 2 * j) = c.D c.W j := by unfold sF; rw [cF_d]; unfold sD; rw [if_neg (by omega)]
      have r0 : ∀ {own : List Ent}, H.rd ⟨own, ro'⟩ (Addr.add (Addr.add bX ((0 : Int).toNat * 1)) 0) (Value.int .i64 (c.S c.W + dsum (c.D c.W) c.aN c.aA j)) := fun {own} => by
        have := rm_rd (own := own) hx (fun _ _ h => h) hbX (k := 0) (i := 0) (by omega) rfl
        rwa [v0] at this
      have r1' : ∀ {own : List Ent}, H.rd ⟨own, ro'⟩ (Addr.add (Addr.add bX ((1 + 2 * (j : Int)).toNat * 1)) 0) (Value.int .i64 (c.D c.W j)) := fun {own} => by
        have := rm_rd (own := own) hx (fun _ _ h => h) hbX (k := 1 + 2 * j) (i := 1 + 2 * (j : Int)) (by omega) (by omega)
        rwa [v1] at this
      refine rS0 (ccE r1 n Nw Su c.W c.K As At Ad Nu) m1 rfl rfl (ask_at hr'.ak hjn (fun y hy => idx1 hy.ro (by simp) ?_))
      refine ⟨⟨by omega, by omega⟩, ⟨by omega, by omega⟩, bX, hbX, by omega, by omega, _, r1', ⟨by omega, by omega⟩, VIf_eq (fun hy1 => ?_) (fun hy1 => ?_)⟩
      · have hy1 : c.aN j = c.D c.W j + 1 := hy1
        refine ⟨⟨by omega, by omega⟩, ⟨by omega, by omega⟩, bX, hbX, by omega, by omega, ⟨by omega, by omega⟩, ⟨by omega, by omega⟩, ⟨by omega, by omega⟩, ⟨by omega, by omega⟩, bX, hbX, by omega, by omega, bX, hbX, by omega, by omega, _, r0, _, r1', ⟨by omega, by omega⟩, _, r0, ?_⟩
        refine rS0 (ccE r1 n Nw Su c.W c.K As At Ad Nu) m1 rfl rfl (ask_at hr'.ak hjn (fun y hy => idx0 hy.ro (by simp) ?_))
        have e0 : gI [c.aA j, c.aN j] 0 = c.aA j := rfl
        rw [e0]
        refine ⟨⟨by omega, by omega⟩, ref4_upd_c hx (by omega) (k := 2 + 2 * j) (by omega) (by omega) (fun s1 ro1 q1 z1 => ⟨⟨[], by simp⟩, s1, rfl, ?_⟩)⟩
        refine ref4_upd_c z1 (by omega) (k := 1 + 2 * j) (by omega) (by omega) (fun s2 ro2 q2 z2 => ⟨⟨[], by simp⟩, s2, rfl, ?_⟩)
        refine ref4_upd_c z2 (by omega) (k := 0) (by omega) rfl (fun s3 ro3 q3 z3 => ⟨s3, rfl, ⟨by omega, by omega⟩, n - (j + 1), by omega, gi ⟨j + 1, by omega, by omega, rfl, ro3, fun a v h => q3 a v (q2 a v (q1 a v (mm a v h))), rfl, ?_⟩⟩)
        rw [sF_yes hy1] at z3
        exact z3
      · have hy1 : ¬ c.aN j = c.D c.W j + 1 := hy1
        exact ⟨⟨by omega, by omega⟩, n - (j + 1), by omega, gi ⟨j + 1, by omega, by omega, rfl, ro', mm, rfl, by rw [← sF_no hy1]; exact hx⟩⟩
    rintro _ x _ ⟨ro', mm, rfl, hx⟩
    rw [sF_new hc hn] at hx
    have hr' := hr.up mm
    refine rS0 (ccE r1 n Nw Su c.W c.K As At Ad Nu) m1 rfl rfl (rI0 (ccE r1 n Nw Su c.W c.K As At Ad Nu) m1 rfl rfl ⟨⟨by omega, by omega⟩, ref4_half_c hr'.nw hx (v := 1 - c.W) (by omega) (by omega) (fun Nw' ro2 q2 h2' => ⟨Nw', rfl, cc_w n Nw' Su c.W c.K As At Ad Nu rfl (by decide) rfl ?_⟩)⟩)
    have hr2 := hr'.up q2
    exact gi ⟨cAdd c (cNew c), Nw', Su, As, ro2, rfl, fun a v h => q2 a v (mm a v h), ⟨h2', hr2.su, hr2.ak, hr2.ln, hr2.ad, hr2.nu⟩, h0, by unfold cstp; rw [if_neg h1, if_neg h2, if_neg h3, if_neg h4, if_pos h5, h5]; rfl⟩
  · -- what lasts
    refine rS0 (ccE r1 n Nw Su c.W c.K As At Ad Nu) m1 rfl rfl (rI0 (ccE r1 n Nw Su c.W c.K As At Ad Nu) m1 rfl rfl ⟨⟨by omega, by omega⟩, rS0 (ccE r1 n Nw Su c.W c.K As At Ad Nu) m1 rfl rfl (rI0 (ccE r1 n Nw Su c.W c.K As At Ad Nu) m1 rfl rfl ⟨⟨by omega, by omega⟩, two_at hr.nw (w := 1 - c.W) (by omega) (by omega) (fun x hx => ?_)⟩)⟩)
    rw [cOth_row (by omega)] at hx
    refine ref4_half_c hr.su hx (v := 1 - c.W) (by omega) (by omega) (fun Su' ro2 q2 h2' => ⟨Su', rfl, cc_w n Nw Su' c.W c.K As At Ad Nu rfl (by decide) rfl ?_⟩)
    have hr2 := hr.up q2
    exact gi ⟨cSure c (cOth c), Nw, Su', As, ro2, rfl, q2, ⟨hr2.nw, h2', hr2.ak, hr2.ln, hr2.ad, hr2.nu⟩, h0, by unfold cstp; rw [if_neg h1, if_neg h2, if_neg h3, if_neg h4, if_neg h5, if_pos h6, h6]; rfl⟩
  · have e : 1 - ((c.W : Nat) : Int) = ((1 - c.W : Nat) : Int) := by omega
    refine rI0 (ccE r1 n Nw Su c.W c.K As At Ad Nu) m1 rfl rfl ⟨⟨by omega, by omega⟩, ?_⟩
    show H.wr _ _ [Value.int .i64 (1 - ((c.W : Nat) : Int))] _
    rw [e]
    exact cc_w n Nw Su ((1 - c.W : Nat) : Int) c.K As At Ad Nu rfl (by decide) rfl (gi ⟨{ c with W := 1 - c.W }, Nw, Su, As, ro, rfl, id0, ⟨hr.nw, hr.su, hr.ak, hr.ln, hr.ad, hr.nu⟩, h0, by unfold cstp; rw [if_neg h1, if_neg h2, if_neg h3, if_neg h4, if_neg h5, if_neg h6, if_pos h7, h7]; rfl⟩)
  · exact cc_w n Nw Su c.W 0 As At Ad Nu rfl (by decide) rfl (gi ⟨{ c with K := 0 }, Nw, Su, As, ro, rfl, id0, ⟨hr.nw, hr.su, hr.ak, hr.ln, hr.ad, hr.nu⟩, h0, by unfold cstp; rw [if_neg h1, if_neg h2, if_neg h3, if_neg h4, if_neg h5, if_neg h6, if_neg h7]⟩)
  · omega
end Go.Proofs.YtockhbbpcbcenaaDoor
