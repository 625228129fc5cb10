import Derived.Test.YtogbkgimpkaemaaDoorSc
namespace Go.Proofs.YtogbkgimpkaemaaDoor
open Go.Eng
set_option maxRecDepth 20000
/-! ### the document's stack steps, and a new one -/
theorem rlenS {n : Nat} {f : Nat → Int} {s : SV} {h : H} (r : RdSl h s (ints (rm n f))) : s.len = n := by
  have := r.len; rwa [ints_length, rm_len] at this
def dTag (d : SD) : Int := if d.tg then d.tag + 1 else d.tag
def dStep (d : SD) (q : Nat) : SD × Bool × Int :=
  if d.a q = 4 then ({ d with sx := updN d.sx q (d.x (d.sn q).toNat), a := updN d.a q 5 }, false, 0)
  else if d.a q = 1 then ({ d with sn := updN d.sn q d.nd, st := updN d.st q d.tag, x := updN d.x (d.m q).toNat d.nd, a := updN d.a q 2 }, false, 0)
  else if d.a q = 3 then (if d.nd < 0 then ({ d with sn := updN d.sn q d.nd, st := updN d.st q d.tag, a := updN d.a q 0 }, true, -1) else ({ d with sn := updN d.sn q d.nd, st := updN d.st q d.tag, a := updN d.a q 4 }, false, 0))
  else if d.nd ≠ d.sn q ∨ d.tag ≠ d.st q then ({ d with a := updN d.a q (if d.a q = 5 then 3 else 1) }, false, 0)
  else if d.a q = 2 then ({ d with tag := dTag d, a := updN d.a q 0, nd := d.m q }, true, -1)
  else ({ d with tag := dTag d, a := updN d.a q 0, nd := d.sx q, u := updN d.u (d.sn q).toNat false }, true, d.v (d.sn q).toNat)
structure SOk (d : SD) (q : Nat) : Prop where
  a : 1 ≤ d.a q ∧ d.a q ≤ 5
  t : 0 ≤ d.tag ∧ d.tag ≤ 1000000
  m : d.a q = 1 → 0 ≤ d.m q ∧ d.m q < 4
  sn : d.a q = 4 ∨ d.a q = 5 → 0 ≤ d.sn q ∧ d.sn q < 4
set_option maxHeartbeats 4000000 in
theorem ref_sstep_c {n q : Nat} {d : SD} {S : SS} {own : List Ent} {ro : Addr → Option Value} {post : Value → H → Prop} (hr : StR ro n d S) (hn : n ≤ 4) (hq : q < n) (ok : SOk d q)
    (hk : ∀ S' ro', (∀ a v, ro a = some v → ro' a = some v) → StR ro' n (dStep d q).1 S' → post (sdQ (dStep d q).2.1 (dStep d q).2.2 0 (dStep d q).1 S') ⟨own, ro'⟩) :
    SemCall Tryd.prog 11 (List.toArray [.agg (List.toArray (sdC d S)), .int .i64 (q : Int)]) ⟨own, ro⟩ post := by
  obtain ⟨oa, ot, om, osn⟩ := ok
  have la := hr.a.len
  rw [ints_length, rm_len] at la
  refine f11_call _ _ _ _ _ _ _ _ _ _ _ _ _ post ?_
  refine new2 (n1 := 11) (n2 := 11) rfl rfl (fun r1 r3 => ?_)
  have m1 : ∀ {e : Ent} {Z : List Ent}, e ∈ own ++ e :: Z := by simp
  have m3 : ∀ {e1 e : Ent} {Z : List Ent}, e ∈ (own ++ [e1]) ++ e :: Z := by simp
  have fin : ∀ {ro : Addr → Option Value} {dn : Bool} {g e : Int} {d : SD} {S : SS}, post (sdQ dn g e d S) ⟨own, ro⟩ → _ := fun {ro dn g e d S} h =>
    sk_fin (own := own) (Y := []) (ro := ro) (r1 := r1) (r3 := r3) (a0 := d.tg) (a1 := d.nd) (a2 := d.tag) (a3 := S.V) (a4 := S.X) (a5 := S.U) (a6 := S.A) (a7 := S.M) (a8 := S.N) (a9 := S.T) (a10 := S.Y) (z0 := false) (z1 := 0) (z2 := 0) (z3 := zV) (z4 := zV) (z5 := zV) (z6 := zV) (z7 := zV) (z8 := zV) (z9 := zV) (z10 := zV) (Q := fun y0 y1 y2 y3 y4 y5 y6 y7 y8 y9 y10 => .tuple (List.toArray [.agg (List.toArray (skC y0 y1 y2 y3 y4 y5 y6 y7 y8 y9 y10)), .bool dn, .int .i64 g, .int .i64 e])) (post := post) h
  refine rS0 (sdE r1 d S) m1 rfl rfl ⟨⟨by omega, by omega⟩, ref3_in_c ⟨_, rfl, VIf_not (fun h => absurd ⟨by omega, by omega⟩ h) (fun _ => ?_)⟩⟩
  refine rS0 (sdE r1 d S) m1 rfl rfl (rm_ati hr.a hq rfl (VIf_eq (fun z => absurd z (by omega)) (fun _ => VIf_eq (fun b4 => ?_) (fun b4 => ?_))))
  · -- 4
    obtain ⟨s0, s1⟩ := osn (.inl b4)
    have e : dStep d q = ({ d with sx := updN d.sx q (d.x (d.sn q).toNat), a := updN d.a q 5 }, false, 0) := by unfold dStep; rw [if_pos b4]
    rw [e] at hk
    obtain ⟨k, hkk⟩ : ∃ k : Nat, d.sn q = (k : Int) := ⟨(d.sn q).toNat, by omega⟩
    have ek : (d.sn q).toNat = k := by omega
    rw [ek] at hk
    refine rS0 (sdE r1 d S) m1 rfl rfl (rS0 (sdE r1 d S) m1 rfl rfl (rS0 (sdE r1 d S) m1 rfl rfl (rm_ati hr.sn hq rfl (rm_ati hr.x (k := k) (by omega) hkk (ref3_upd_c hr.sx (by omega) hq rfl (fun Y' ro1 q1 hy' => ⟨Y', rfl, sd_w { d with sx := updN d.sx q (d.x k) } { S with Y := Y' } rfl (by decide) rfl ?_⟩))))))
    refine rS0 (sdE r1 { d with sx := updN d.sx q (d.x k) } { S with Y := Y' }) m1 rfl rfl (ref3_upd_c (hr.a.mono (by simp) q1) (by omega) hq rfl (fun A' ro2 q2 ha' => ⟨A', rfl, sd_w { d with sx := updN d.sx q (d.x k), a := updN d.a q 5 } { S with Y := Y', A := A' } rfl (by decide) rfl ?_⟩))
    have q12 : ∀ a v, ro a = some v → ro2 a = some v := fun a v h => q2 a v (q1 a v h)
    have r2 := hr.up q12
    exact fin (hk _ ro2 q12 { r2 with a := ha', sx := hy'.mono (by simp) q2 })
  by_cases b13 : d.a q = 1 ∨ d.a q = 3
  · -- 1, 3
    refine join_b (h := ⟨own ++ [sdE r1 d S, skZ r3], ro⟩) true (VIf_eq (fun _ => gi ⟨rfl, rfl⟩) (fun h => gi ⟨rfl, beq_iff_eq.2 (by omega)⟩)) (VIf_b (fun _ => ?_) (nomatch ·))
    refine rS0 (sdE r1 d S) m1 rfl rfl (rI0 (sdE r1 d S) m1 rfl rfl (ref3_upd_c hr.sn (by omega) hq rfl (fun N' ro1 q1 hn' => ⟨N', rfl, sd_w { d with sn := updN d.sn q d.nd } { S with N := N' } rfl (by decide) rfl ?_⟩)))
    refine rS0 (sdE r1 { d with sn := updN d.sn q d.nd } { S with N := N' }) m1 rfl rfl (rI0 (sdE r1 { d with sn := updN d.sn q d.nd } { S with N := N' }) m1 rfl rfl (ref3_upd_c (hr.st.mono (by simp) q1) (by omega) hq rfl (fun T' ro2 q2 ht' => ⟨T', rfl, sd_w { d with sn := updN d.sn q d.nd, st := updN d.st q d.tag } { S with N := N', T := T' } rfl (by decide) rfl ?_⟩)))
    have q12 : ∀ a v, ro a = some v → ro2 a = some v := fun a v h => q2 a v (q1 a v h)
    refine ⟨_, ?_, fun _ _ h => h⟩
    refine VIf_eq (fun b1 => ?_) (fun b1 => ?_)
    · obtain ⟨n0, n4⟩ := om b1
      obtain ⟨k, hkk⟩ : ∃ k : Nat, d.m q = (k : Int) := ⟨(d.m q).toNat, by omega⟩
      have ek : (d.m q).toNat = k := by omega
      have e : dStep d q = ({ d with sn := updN d.sn q d.nd, st := updN d.st q d.tag, x := updN d.x k d.nd, a := updN d.a q 2 }, false, 0) := by unfold dStep; rw [if_neg b4, if_pos b1, ek]
      rw [e] at hk
      refine rS0 (sdE r1 { d with sn := updN d.sn q d.nd, st := updN d.st q d.tag } { S with N := N', T := T' }) m1 rfl rfl (rS0 (sdE r1 { d with sn := updN d.sn q d.nd, st := updN d.st q d.tag } { S with N := N', T := T' }) m1 rfl rfl (rm_ati (hr.m.mono (by simp) q12) hq rfl (rI0 (sdE r1 { d with sn := updN d.sn q d.nd, st := updN d.st q d.tag } { S with N := N', T := T' }) m1 rfl rfl ?_)))
      refine ref3_upd_c (hr.x.mono (by simp) q12) (by omega) (k := k) (by omega) hkk (fun X' ro3 q3 hx' => ⟨X', rfl, sd_w { d with sn := updN d.sn q d.nd, st := updN d.st q d.tag, x := updN d.x k d.nd } { S with N := N', T := T', X := X' } rfl (by decide) rfl (gi ?_)⟩)
      have q13 : ∀ a v, ro a = some v → ro3 a = some v := fun a v h => q3 a v (q12 a v h)
      refine rS0 (sdE r1 { d with sn := updN d.sn q d.nd, st := updN d.st q d.tag, x := updN d.x k d.nd } { S with N := N', T := T', X := X' }) m1 rfl rfl ⟨⟨by omega, by omega⟩, ?_⟩
      rw [show d.a q + 1 = 2 by omega]
      refine ref3_upd_c (hr.a.mono (by simp) q13) (by omega) hq rfl (fun A' ro4 q4 ha' => ⟨A', rfl, sd_w { d with sn := updN d.sn q d.nd, st := updN d.st q d.tag, x := updN d.x k d.nd, a := updN d.a q 2 } { S with N := N', T := T', X := X', A := A' } rfl (by decide) rfl ?_⟩)
      have q14 : ∀ a v, ro a = some v → ro4 a = some v := fun a v h => q4 a v (q13 a v h)
      have r4 := hr.up q14
      exact fin (hk _ ro4 q14 { r4 with a := ha', x := hx'.mono (by simp) q4, st := ht'.mono (by simp) (fun a v h => q4 a v (q3 a v h)), sn := hn'.mono (by simp) (fun a v h => q4 a v (q3 a v (q2 a v h))) })
    · have b3 : d.a q = 3 := by omega
      refine rI0 (sdE r1 { d with sn := updN d.sn q d.nd, st := updN d.st q d.tag } { S with N := N', T := T' }) m1 rfl rfl (VIf_dec (fun hneg => ?_) (fun hneg => gi ?_))
      · have e : dStep d q = ({ d with sn := updN d.sn q d.nd, st := updN d.st q d.tag, a := updN d.a q 0 }, true, -1) := by unfold dStep; rw [if_neg b4, if_neg b1, if_pos b3, if_pos hneg]
        rw [e] at hk
        refine rS0 (sdE r1 { d with sn := updN d.sn q d.nd, st := updN d.st q d.tag } { S with N := N', T := T' }) m1 rfl rfl (ref3_upd_c (hr.a.mono (by simp) q12) (by omega) hq rfl (fun A' ro3 q3 ha' => ⟨A', rfl, sd_w { d with sn := updN d.sn q d.nd, st := updN d.st q d.tag, a := updN d.a q 0 } { S with N := N', T := T', A := A' } rfl (by decide) rfl ?_⟩))
        have q13 : ∀ a v, ro a = some v → ro3 a = some v := fun a v h => q3 a v (q12 a v h)
        have r3 := hr.up q13
        exact fin (hk _ ro3 q13 { r3 with a := ha', st := ht'.mono (by simp) q3, sn := hn'.mono (by simp) (fun a v h => q3 a v (q2 a v h)) })
      · have e : dStep d q = ({ d with sn := updN d.sn q d.nd, st := updN d.st q d.tag, a := updN d.a q 4 }, false, 0) := by unfold dStep; rw [if_neg b4, if_neg b1, if_pos b3, if_neg hneg]
        rw [e] at hk
        refine rS0 (sdE r1 { d with sn := updN d.sn q d.nd, st := updN d.st q d.tag } { S with N := N', T := T' }) m1 rfl rfl ⟨⟨by omega, by omega⟩, ?_⟩
        rw [show d.a q + 1 = 4 by omega]
        refine ref3_upd_c (hr.a.mono (by simp) q12) (by omega) hq rfl (fun A' ro3 q3 ha' => ⟨A', rfl, sd_w { d with sn := updN d.sn q d.nd, st := updN d.st q d.tag, a := updN d.a q 4 } { S with N := N', T := T', A := A' } rfl (by decide) rfl ?_⟩)
        have q13 : ∀ a v, ro a = some v → ro3 a = some v := fun a v h => q3 a v (q12 a v h)
        have r3 := hr.up q13
        exact fin (hk _ ro3 q13 { r3 with a := ha', st := ht'.mono (by simp) q3, sn := hn'.mono (by simp) (fun a v h => q3 a v (q2 a v h)) })
  -- 2, 5
  have b1 : d.a q ≠ 1 := fun h => b13 (.inl h)
  have b3 : d.a q ≠ 3 := fun h => b13 (.inr h)
  refine join_b (h := ⟨own ++ [sdE r1 d S, skZ r3], ro⟩) false (VIf_eq (fun h => absurd h b1) (fun h => gi ⟨rfl, beq_eq_false_iff_ne.2 b3⟩)) (VIf_b (nomatch ·) (fun _ => ?_))
  refine join_b (h := ⟨own ++ [sdE r1 d S, skZ r3], ro⟩) (decide (d.nd ≠ d.sn q ∨ d.tag ≠ d.st q)) ?_ ?_
  · refine rI0 (sdE r1 d S) m1 rfl rfl (rS0 (sdE r1 d S) m1 rfl rfl (rm_ati hr.sn hq rfl (VIf_ne (fun h => gi ⟨rfl, (decide_eq_true (.inl h)).symm⟩) (fun h => rI0 (sdE r1 d S) m1 rfl rfl (rS0 (sdE r1 d S) m1 rfl rfl (rm_ati hr.st hq rfl (gi ⟨rfl, ?_⟩)))))))
    by_cases ht : d.tag = d.st q
    · rw [decide_eq_false (by rintro (g | g) <;> contradiction)]
      exact bne_eq_false_iff_eq.2 ht
    · rw [decide_eq_true (.inr ht)]
      exact bne_iff_ne.2 ht
  refine VIf_dec (fun hne => ?_) (fun hne => ?_)
  · have e : dStep d q = ({ d with a := updN d.a q (if d.a q = 5 then 3 else 1) }, false, 0) := by unfold dStep; rw [if_neg b4, if_neg b1, if_neg b3, if_pos hne]
    rw [e] at hk
    refine ⟨fun x h => h = ⟨own ++ [sdE r1 d S, skZ r3], ro⟩ ∧ x = (if d.a q = 5 then 3 else 1), VIf_eq (fun h => gi ⟨rfl, by rw [if_pos h]⟩) (fun h => gi ⟨rfl, by rw [if_neg h]⟩), ?_⟩
    rintro _ _ _ ⟨rfl, rfl⟩
    refine rS0 (sdE r1 d S) m1 rfl rfl (ref3_upd_c hr.a (by omega) hq rfl (fun A' ro1 q1 ha' => ⟨A', rfl, sd_w { d with a := updN d.a q (if d.a q = 5 then 3 else 1) } { S with A := A' } rfl (by decide) rfl ?_⟩))
    have r1' := hr.up q1
    exact fin (hk _ ro1 q1 { r1' with a := ha' })
  have etg : d.tg = true ∨ d.tg = false := by cases d.tg <;> simp
  refine ⟨d.tg, ?_, ?_⟩
  · rw [add_mk', add_mk']; exact rdo (sdE r1 d S) m1 rfl rfl
  refine ⟨fun h => h = ⟨own ++ [sdE r1 { d with tag := dTag d } S, skZ r3], ro⟩, VIf_b (fun ht => rI0 (sdE r1 d S) m1 rfl rfl ⟨⟨by omega, by omega⟩, sd_w { d with tag := d.tag + 1 } S rfl (by decide) rfl (gi ?_)⟩) (fun ht => gi ?_), ?_⟩
  · unfold dTag; rw [if_pos ht]
  · unfold dTag; rw [if_neg (by rw [ht]; decide)]
  rintro _ _ rfl
  refine rS0 (sdE r1 { d with tag := dTag d } S) m1 rfl rfl (ref3_upd_c hr.a (by omega) hq rfl (fun A' ro1 q1 ha' => ⟨A', rfl, sd_w { d with tag := dTag d, a := updN d.a q 0 } { S with A := A' } rfl (by decide) rfl ?_⟩))
  have r1' := hr.up q1
  refine VIf_eq (fun b2 => ?_) (fun b2 => ?_)
  · have e : dStep d q = ({ d with tag := dTag d, a := updN d.a q 0, nd := d.m q }, true, -1) := by unfold dStep; rw [if_neg b4, if_neg b1, if_neg b3, if_neg hne, if_pos b2]
    rw [e] at hk
    refine rS0 (sdE r1 { d with tag := dTag d, a := updN d.a q 0 } { S with A := A' }) m1 rfl rfl (rm_ati r1'.m hq rfl (sd_w { d with tag := dTag d, a := updN d.a q 0, nd := d.m q } { S with A := A' } rfl (by decide) rfl ?_))
    exact fin (hk _ ro1 q1 { r1' with a := ha' })
  have b5 : d.a q = 5 := by omega
  obtain ⟨s0, s1⟩ := osn (.inr b5)
  obtain ⟨k, hkk⟩ : ∃ k : Nat, d.sn q = (k : Int) := ⟨(d.sn q).toNat, by omega⟩
  have ek : (d.sn q).toNat = k := by omega
  have hk4 : k < 4 := by omega
  have e : dStep d q = ({ d with tag := dTag d, a := updN d.a q 0, nd := d.sx q, u := updN d.u k false }, true, d.v k) := by unfold dStep; rw [if_neg b4, if_neg b1, if_neg b3, if_neg hne, if_neg b2, ek]
  rw [e] at hk
  refine rS0 (sdE r1 { d with tag := dTag d, a := updN d.a q 0 } { S with A := A' }) m1 rfl rfl (rm_ati r1'.sx hq rfl (sd_w { d with tag := dTag d, a := updN d.a q 0, nd := d.sx q } { S with A := A' } rfl (by decide) rfl ?_))
  refine rS0 (sdE r1 { d with tag := dTag d, a := updN d.a q 0, nd := d.sx q } { S with A := A' }) m1 rfl rfl (rS0 (sdE r1 { d with tag := dTag d, a := updN d.a q 0, nd := d.sx q } { S with A := A' }) m1 rfl rfl (rm_ati r1'.sn hq rfl (ref3_used_c r1'.u hk4 hkk (fun U' ro2 q2 hu' => ⟨U', rfl, sd_w { d with tag := dTag d, a := updN d.a q 0, nd := d.sx q, u := updN d.u k false } { S with A := A', U := U' } rfl (by decide) rfl ?_⟩))))
  have q12 : ∀ a v, ro a = some v → ro2 a = some v := fun a v h => q2 a v (q1 a v h)
  have r2 := hr.up q12
  have hend := hk { S with A := A', U := U' } ro2 q12 { r2 with a := ha'.mono (by simp) q2, u := hu' }
  obtain ⟨bN, hbN⟩ := r2.sn.addr (by rw [ints_length, rm_len]; omega)
  obtain ⟨bV, hbV⟩ := r2.v.addr (by rw [ints_length, rm_len]; omega)
  have lN := rlenS r2.sn
  have lV := rlenS r2.v
  have rN : ∀ {own : List Ent}, H.rd ⟨own, ro2⟩ (Addr.add (Addr.add bN (((q : Int)).toNat * 1)) 0) (Value.int .i64 (k : Int)) := fun {own} => by rw [← hkk]; exact rm_rd r2.sn (fun _ _ h => h) hbN hq rfl
  have rV : ∀ {own : List Ent}, H.rd ⟨own, ro2⟩ (Addr.add (Addr.add bV (((k : Int)).toNat * 1)) 0) (Value.int .i64 (d.v k)) := fun {own} => rm_rd r2.v (fun _ _ h => h) hbV hk4 rfl
  have m1b : ∀ {e : Ent} {Z : List Ent}, e ∈ (own ++ [e]) ++ Z := by simp
  repeat' first
    | exact ⟨⟨own, ro2⟩, Gh.drop (by simp), hend⟩
    | refine ⟨bN, hbN, by omega, by simp only; omega, ?_⟩
    | refine ⟨bV, hbV, by omega, by simp only; omega, ?_⟩
    | refine ⟨(k : Int), rN, ?_⟩
    | refine ⟨d.v k, rV, ?_⟩
    | refine rS0 (sdE r1 { d with tag := dTag d, a := updN d.a q 0, nd := d.sx q, u := updN d.u k false } { S with A := A', U := U' }) m1 rfl rfl ?_
    | refine rS0 (sdE r1 { d with tag := dTag d, a := updN d.a q 0, nd := d.sx q, u := updN d.u k false } { S with A := A', U := U' }) m1b rfl rfl ?_
    | refine sk_get (r := r1) (a0 := d.tg) (a1 := d.sx q) (a2 := dTag d) (a3 := S.V) (a4 := S.X) (a5 := U') (a6 := A') (a7 := S.M) (a8 := S.N) (a9 := S.T) (a10 := S.Y) m1 ?_
    | refine sk_get (r := r3) (a0 := d.tg) (a1 := d.sx q) (a2 := dTag d) (a3 := S.V) (a4 := S.X) (a5 := U') (a6 := A') (a7 := S.M) (a8 := S.N) (a9 := S.T) (a10 := S.Y) m3 ?_
    | refine sk_put (a0 := d.tg) (a1 := d.sx q) (a2 := dTag d) (a3 := S.V) (a4 := S.X) (a5 := U') (a6 := A') (a7 := S.M) (a8 := S.N) (a9 := S.T) (a10 := S.Y) (z0 := false) (z1 := 0) (z2 := 0) (z3 := zV) (z4 := zV) (z5 := zV) (z6 := zV) (z7 := zV) (z8 := zV) (z9 := zV) (z10 := zV) (own ++ [sdE r1 { d with tag := dTag d, a := updN d.a q 0, nd := d.sx q, u := updN d.u k false } { S with A := A', U := U' }]) [] (by simp; rfl) ?_
    | refine And.intro ?_ ?_
end Go.Proofs.YtogbkgimpkaemaaDoor
