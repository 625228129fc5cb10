import Derived.Test.YtiaopgnnibidlaaDoorRc
import Derived.Test.YtiaopgnnibidlaaDoorEngJ
namespace Go.Proofs.YtiaopgnnibidlaaDoor
open Go.Eng
set_option maxRecDepth 20000
theorem dq_places_c {p n : Nat} {f h : Nat → Int} {L own : List Ent} {ro : Addr → Option Value} {post : Value → H → Prop} (hs : DqAt p n f h L) (hL : ∀ e ∈ L, e ∈ own)
    (hk : ∀ (s' : SV) (e' : Ent), OwnsSl 1 s' e' (ints (rm 8 f)) → post (.slice s'.a s'.len s'.cap) ⟨own ++ [e'], ro⟩) : SemCall Tryd.prog 25 (List.toArray [.pointer (some (Addr.mk p 0 none))]) ⟨own, ro⟩ post := by
  obtain ⟨h1, h4, bh, c, c1, rfl⟩ := hs
  refine f25_call _ _ post ⟨_, rfl, ?_⟩
  rw [add_mk', add_mk']
  refine clone_c (s := ⟨some (Addr.mk p (0 + 0 + 0) none), 8, 8⟩) (xs := rm 8 f) ⟨by rw [ints_length, rm_len], (nomatch ·), fun b hb i v hv => ?_⟩ (by dsimp only; omega) (fun s' e' o => ⟨s', rfl, ret (hk s' e' o)⟩)
  cases hb
  rw [add_mk']
  have hi : i < 8 := by have := (List.getElem?_eq_some_iff.1 hv).1; rwa [ints_length, rm_len] at this
  refine rdo _ (hL _ (.tail _ (.head _))) rfl ?_
  rw [List.getElem?_append_left (by simp [rm_len]; omega), ints_get, show 0 + 0 + 0 + i = i by omega, rm_get _ (by omega)]
  rw [ints_get, rm_get _ hi] at hv
  exact hv
theorem dq_at_c {p n : Nat} {q : Int} {f h : Nat → Int} {L own : List Ent} {ro : Addr → Option Value} {post : Value → H → Prop} (hs : DqAt p n f h L) (hL : ∀ e ∈ L, e ∈ own)
    (hk : post (.int .i64 (if 0 ≤ q ∧ q ≤ (n : Int) - 1 then h (q.toNat * 4) else 0)) ⟨own, ro⟩) : SemCall Tryd.prog 26 (List.toArray [.pointer (some (Addr.mk p 0 none)), .int .i64 q]) ⟨own, ro⟩ post := by
  obtain ⟨h1, h4, bh, c, c1, rfl⟩ := hs
  have rT : ∀ {K : SV → Prop}, K ⟨some (Addr.mk bh 0 none), n, n⟩ → ∃ x : SV, H.rd ⟨own, ro⟩ (Addr.add (Addr.add (Addr.mk p 0 none) 10) 0) (.slice x.a x.len x.cap) ∧ K x := fun hK => by
    refine ⟨_, ?_, hK⟩
    rw [add_mk', add_mk']
    exact rdo _ (hL _ (.tail _ (.head _))) rfl rfl
  refine f26_call _ _ _ post ⟨_, rfl, rT ⟨⟨by dsimp only; omega, by dsimp only; omega⟩, within_c ⟨_, rfl, VIf_nb (fun hc => ?_) (fun hc => ⟨_, rfl, rT ?_⟩)⟩⟩⟩
  · have hc := of_decide_eq_false hc
    rw [if_neg hc] at hk
    exact ret hk
  · have hc := of_decide_eq_true hc
    dsimp only at hc
    rw [if_pos hc] at hk
    refine ⟨_, rfl, hc.1, by dsimp only; omega, h (q.toNat * 4), ?_, ret hk⟩
    rw [add_mk', add_mk', add_mk', show 0 + q.toNat * 4 + 0 + 0 = q.toNat * 4 by omega]
    exact rd_ints _ (hL _ (.head _)) rfl rfl (rm_get _ (by omega))
/-! ### what is kept -/
theorem DPI.mono {n : Nat} {i j : Int} {f h a t b v : Nat → Int} (I : DPI n i f h a t b v) (hj : i ≤ j) : DPI n j f h a t b v := ⟨I.gh, I.bf.mono (by omega), I.bh.mono (by omega), I.r⟩
theorem DPI.start (n : Nat) : DPI n 0 (fun _ => 0) (fun _ => 0) (fun _ => 0) (fun _ => 0) (fun _ => 0) (fun _ => 0) := by
  refine ⟨⟨fun _ => 0, fun _ => 0, [], [], 0, 0, false, ⟨[], [], ⟨by omega, fun j hj => by simp at hj, by simp, .nil, fun x => ?_, by simp, .nil, fun x hx => by simp at hx⟩, fun q _ _ => .inl rfl, .inl ⟨rfl, by simp, rfl, rfl⟩⟩, ⟨rfl, rfl, fun _ => rfl, fun _ => rfl, fun _ => rfl⟩⟩, fun k => by constructor <;> omega, fun k => by constructor <;> omega, fun q _ => rel_zero rfl rfl⟩
  rw [if_neg (by omega)]; simp
theorem DPI.at {n q : Nat} {i : Int} {f h a t b v : Nat → Int} (I : DPI n i f h a t b v) (hq : q < n) : 0 ≤ h (q * 4) ∧ h (q * 4) ≤ 12 := by
  obtain ⟨F, G, po, st, pu, nx, ps, D, c⟩ := I.gh
  rw [c.h0 q]; exact D.at hq
theorem DPI.ok {n q : Nat} {i : Int} {f h a t b v : Nat → Int} (I : DPI n i f h a t b v) (hq : q < n) (hi : i ≤ 1000) : DOk f h q := by
  obtain ⟨F, G, po, st, pu, nx, ps, D, c⟩ := I.gh
  obtain ⟨k1, k2, k3, k4, _⟩ := D.okc c hq
  exact I.bf.ok I.bh (by omega) k1 k2 k3 k4
theorem DPI.rok {n q : Nat} {i : Int} {f h a t b v : Nat → Int} (I : DPI n i f h a t b v) (hq : q < n) (hi : i ≤ 1000) : ROk f a t b q := by
  obtain ⟨F, G, po, st, pu, nx, ps, D, c⟩ := I.gh
  obtain ⟨k1, k2, k3, k4, k5⟩ := D.okc c hq
  obtain ⟨r0, rv, rt, rb⟩ := I.r q hq
  have := I.at hq
  refine ⟨by omega, fun k => by have := I.bf k; omega, k1, fun h => k2 (by omega), fun h => ?_, fun h => ?_, fun h => ?_⟩
  · rw [rt (by omega)]
    have := k5 (by omega)
    have := I.bh (q * 4 + 2)
    omega
  · rw [rt (by omega)]; exact k4 (by omega)
  · rw [rb (by omega)]; exact k3 (by omega)
theorem DPI.step {n q : Nat} {i : Int} {f h a t b v : Nat → Int} (I : DPI n i f h a t b v) (hq : q < n) (hi : 0 ≤ i) (a0 : a q ≠ 0) :
    DPI n (i + 1) (dStepE f h q).1 (dStepE f h q).2.1 (rStep f a t b v q).a (rStep f a t b v q).t (rStep f a t b v q).b (rStep f a t b v q).v := by
  have ha := I.at hq
  obtain ⟨F, G, po, st, pu, nx, ps, D, c⟩ := I.gh
  obtain ⟨b1, b2⟩ := dStepE_bnd I.bf I.bh (by omega) q
  refine ⟨?_, b1.mono (by omega), b2.mono (by omega), (dp_sim I hq a0 ha).2.2.2.2⟩
  have c2 := c.step ha
  have o := ds_step (f' := (dStepE F G q).1) (h' := (dStepE F G q).2.1) (d := (dStepE F G q).2.2.1) (g := (dStepE F G q).2.2.2.1) (e := (dStepE F G q).2.2.2.2) hq D rfl
  rcases o with ⟨_, o⟩ | ⟨_, _, _, _, ⟨_, o⟩ | ⟨_, o⟩⟩ | ⟨_, _, _, _, ⟨_, o⟩ | ⟨_, o⟩⟩ | ⟨_, _, _, ⟨_, o⟩ | ⟨_, o⟩⟩
  all_goals exact ⟨_, _, _, _, _, _, _, o, c2⟩
theorem DPI.begin {n q : Nat} {i ln val : Int} {f h a t b v : Nat → Int} (I : DPI n i f h a t b v) (hq : q < n) (hi : 0 ≤ i) (a0 : a q = 0) (hl : (q = 0 ∧ (ln = 1 ∨ ln = 4)) ∨ (1 ≤ q ∧ ln = 9)) (hv : 0 ≤ val ∧ val ≤ 1000) (h4 : ln ≠ 1 → val = 0) :
    DPI n i f (dBegin h q ln val) (updN a q ln) t b (updN v q val) := by
  obtain ⟨F, G, po, st, pu, nx, ps, D, c⟩ := I.gh
  have h0 : h (q * 4) = 0 := by rw [← (I.r q hq).1]; exact a0
  have g0 : G (q * 4) = 0 := by rw [← c.h0 q]; exact h0
  refine ⟨?_, I.bf, Bnd.begin I.bh (by omega) (by omega) (by omega), rel_all I.r (rel_at ln 0 0 val (updN_same _ _ _) dBegin_at (updN_same _ _ _) ?_ (fun h => by omega) (fun h => by omega)) Oth.begin (fun _ h => upn h) (fun _ _ => rfl) (fun _ _ => rfl) (fun _ h => upn h)⟩
  · rcases hl with ⟨rfl, rfl | rfl⟩ | ⟨h1, rfl⟩
    · exact ⟨F, _, po, st, pu, _, _, D.push g0, c.begin 0⟩
    · exact ⟨F, _, po, st, pu, _, _, D.pop g0, c.begin 0⟩
    · exact ⟨F, _, po, st, pu, _, _, D.steals h1, c.begin q⟩
  · unfold dBegin; rw [if_pos (by omega), show q * 4 + 1 - q * 4 = 1 by omega]; rfl
def DqSt (p r n : Nat) (ro : Addr → Option Value) (i : Int) (h : H) : Prop :=
  ∃ L f hh P A T B V a t b v ro', h = ⟨L ++ [drE r P (f 8) (f 9) A T B V], ro'⟩ ∧ (∀ a v, ro a = some v → ro' a = some v) ∧ DqR ro' n P A T B V f a t b v ∧ DqAt p n f hh L ∧ DPI n i f hh a t b v
theorem rows_up {ro ro' : Addr → Option Value} {st : SV} {rows : List (SV × List Int)} (hr : RdRowsOf ⟨[], ro⟩ st rows) (h : ∀ a v, ro a = some v → ro' a = some v) {own : List Ent} : RdRowsOf ⟨own, ro'⟩ st rows := hr.mono (by simp) h
theorem len_two {l : List Int} (h : l.length = 2) : ∃ a b, l = [a, b] := match l, h with | [a, b], _ => ⟨a, b, rfl⟩
set_option maxHeartbeats 8000000 in
theorem dequePlays_c {n : Int} {st : SV} {rows : List (SV × List Int)} {ro : Addr → Option Value} {post : Value → H → Prop} (hG : HasErrT ro) (hr : RdRowsOf ⟨[], ro⟩ st rows) (hpost : ∀ h, post (.bool true) h) :
    SemCall Tryd.prog 4 (List.toArray [.int .i64 n, .slice st.a st.len st.cap]) ⟨[], ro⟩ post := by
  refine f4_call _ _ _ post ?_
  refine dq_new_c (fun hc => ⟨_, _, rfl, join_or ?_⟩) (fun p L hs c0 c1 => ⟨_, none, rfl, join_or ?_⟩)
  · rw [show decide (n < 1 ∨ n > 4) = true from decide_eq_true (by omega)]
    exact VIf_b (fun _ => same_error_c hG ⟨_, rfl, ret (hpost _)⟩) (nomatch ·)
  rw [show decide (n < 1 ∨ n > 4) = false from decide_eq_false (by omega)]
  obtain ⟨N, rfl⟩ : ∃ N : Nat, n = (N : Int) := ⟨n.toNat, by omega⟩
  rw [Int.toNat_natCast] at hs
  have hN4 : N ≤ 4 := by omega
  refine VIf_b (nomatch ·) (fun _ => VIf_nnil (ref_dnew_c (by omega) (fun P A T B V ro0 hm0 hT0 => ⟨P, 0, 0, A, T, B, V, rfl, ?_⟩)))
  rw [List.nil_append]
  intro r _
  refine dr_put (r := r) (a0 := P) (a1 := 0) (a2 := 0) (a3 := A) (a4 := T) (a5 := B) (a6 := V) (z0 := ⟨none, 0, 0⟩) (z1 := 0) (z2 := 0) (z3 := ⟨none, 0, 0⟩) (z4 := ⟨none, 0, 0⟩) (z5 := ⟨none, 0, 0⟩) (z6 := ⟨none, 0, 0⟩) L [] rfl ?_
  refine ⟨fun h => ∃ i, 0 ≤ i ∧ i ≤ 300 ∧ DqSt p r N ro i h, ⟨fun m i h => DqSt p r N ro i h ∧ 0 ≤ i ∧ i ≤ 300 ∧ m = (300 - i).toNat, ⟨300, gi ⟨⟨L, _, _, P, A, T, B, V, _, _, _, _, ro0, rfl, hm0, hT0, hs, DPI.start N⟩, by omega, by omega, rfl⟩⟩, ?_⟩, ?_⟩
  rotate_left
  · rintro _ _ ⟨i, hi0, hi3, L, f, hh, P, A, T, B, V, a, t, b, v, ro', rfl, hm, hT, hs, I⟩
    have hs1 := hs.1
    refine ⟨fun x h => x = true, ?_, fun _ x h hx => by rw [hx]; exact ret (hpost _)⟩
    refine dq_at_c hs (fun _ h => by simp [h]) ⟨_, rfl, ?_⟩
    rw [if_neg (by omega)]
    refine VIf_eq (fun _ => ?_) (fun h => absurd rfl h)
    refine dq_at_c hs (fun _ h => by simp [h]) ⟨_, rfl, ?_⟩
    rw [if_neg (by omega)]
    refine VIf_eq (fun _ => ?_) (fun h => absurd rfl h)
    refine dq_steal_c [] _ rfl hs (fun L' hs' => ⟨_, rfl, same_error_c (hG.up hm) ⟨_, rfl, gi ?_⟩⟩)
    unfold dSteal; rw [if_pos (by omega)]; rfl
  rintro k _ i h ⟨⟨L, f, hh, P, A, T, B, V, a, t, b, v, ro', rfl, hm, hT, hs, I⟩, hi0, hi1, rfl⟩
  have hG' := hG.up hm
  have hr' : ∀ {own}, RdRowsOf ⟨own, ro'⟩ st rows := rows_up hr hm
  refine join_and (VIf_dec (fun hi => ?_) (fun _ => gi ⟨i, hi0, hi1, L, f, hh, P, A, T, B, V, a, t, b, v, ro', rfl, hm, hT, hs, I⟩))
  refine ⟨fun h => DqSt p r N ro (i + 1) h, ?_, fun _ h hS => ⟨⟨by omega, by omega⟩, _, by omega, gi ⟨hS, by omega, by omega, rfl⟩⟩⟩
  refine RdRowsOf.idx (h := ⟨L ++ [drE r P (f 8) (f 9) A T B V], ro'⟩) hr' hi0 hi.1 (fun l ys hly _ => ?_)
  have rd : ∀ {own ro2}, (∀ a v, ro a = some v → ro2 a = some v) → RdSl ⟨own, ro2⟩ l (ints ys) := fun {own ro2} h => (rows_up hr (own := own) h).2 (l, ys) (List.mem_of_getElem? hly)
  have hyl : l.len = ys.length := by have := (rd (own := []) hm).len; rwa [ints_length] at this
  -- what is told behind it
  have fin : ∀ h, DqSt p r N ro (i + 1) h → f4_J3 (N : Int) post (some (Addr.mk p 0 none)) r (fun h => DqSt p r N ro (i + 1) h) h := by
    rintro _ ⟨L, f, hh, P, A, T, B, V, a, t, b, v, ro', rfl, hm, hT, hs, I⟩
    have hS : DqSt p r N ro (i + 1) ⟨L ++ [drE r P (f 8) (f 9) A T B V], ro'⟩ := ⟨L, f, hh, P, A, T, B, V, a, t, b, v, ro', rfl, hm, hT, hs, I⟩
    refine dq_ends_c hs (fun _ h => by simp [h]) ⟨f 8, f 9, rfl, ?_⟩
    have pl : ∀ {K : SV → H → Prop}, (∀ s' e', OwnsSl 1 s' e' (ints (rm 8 f)) → K s' ⟨L ++ [drE r P (f 8) (f 9) A T B V] ++ [e'], ro'⟩) → SemCall Tryd.prog 25 (List.toArray [.pointer (some (Addr.mk p 0 none))]) ⟨L ++ [drE r P (f 8) (f 9) A T B V], ro'⟩ fun v h => ∃ x : SV, v = .slice x.a x.len x.cap ∧ K x h := fun hK => dq_places_c hs (fun _ h => by simp [h]) (fun s' e' o => ⟨s', rfl, hK s' e' o⟩)
    have eq : ∀ {K : Value → H → Prop} {s' : SV} {e' : Ent}, OwnsSl 1 s' e' (ints (rm 8 f)) → K (.bool true) ⟨L ++ [drE r P (f 8) (f 9) A T B V] ++ [e'], ro'⟩ → SemCall Tryd.prog 14 (List.toArray [.slice s'.a s'.len s'.cap, .slice P.a P.len P.cap]) ⟨L ++ [drE r P (f 8) (f 9) A T B V] ++ [e'], ro'⟩ K := by
      intro K s' e' o hK
      have lo := o.sl_len
      rw [ints_length, rm_len] at lo
      refine same_ints_c (RdSl.of_own (e := e') (by simp) o) hT.p.ro (by omega) ?_
      rw [decide_eq_true rfl]; exact hK
    refine join_bk (h := ⟨L ++ [drE r P (f 8) (f 9) A T B V], ro'⟩) false ?_ ?_
    rotate_left
    · refine rI0 (drE r P (f 8) (f 9) A T B V) (by simp) rfl rfl (VIf_ne (fun h => absurd rfl h) (fun _ => rI0 (drE r P (f 8) (f 9) A T B V) (by simp) rfl rfl (VIf_ne (fun h => absurd rfl h) (fun _ => ⟨pl (fun s' e' o => rS0 (drE r P (f 8) (f 9) A T B V) (by simp) rfl rfl (eq o ⟨_, rfl, ⟨_, Gh.drop (by simp), rfl, rfl⟩⟩)), rS0 (drE r P (f 8) (f 9) A T B V) (by simp) rfl rfl (pl (fun s' e' o => eq o ⟨_, rfl, ⟨_, Gh.drop (by simp), rfl, rfl⟩⟩))⟩))))
    refine VIf_b (nomatch ·) (fun _ => ?_)
    refine ⟨fun h => DqSt p r N ro (i + 1) h, ⟨fun m k h => h = ⟨L ++ [drE r P (f 8) (f 9) A T B V], ro'⟩ ∧ 0 ≤ k ∧ k ≤ N ∧ m = (N - k).toNat, ⟨_, gi ⟨rfl, by omega, by omega, rfl⟩⟩, ?_⟩, fun _ h hS => gi hS⟩
    rintro m _ k _ ⟨rfl, k0, k1, rfl⟩
    refine VIf_dec (fun hk => ?_) (fun _ => gi hS)
    obtain ⟨q, rfl⟩ : ∃ q : Nat, k = (q : Int) := ⟨k.toNat, by omega⟩
    have hq : q < N := by omega
    refine join_bk (h := ⟨L ++ [drE r P (f 8) (f 9) A T B V], ro'⟩) false (VIf_b (nomatch ·) (fun _ => ⟨⟨by omega, by omega⟩, _, by omega, gi ⟨rfl, by omega, by omega, rfl⟩⟩)) ?_
    have ag : ∀ {K : Value → H → Prop}, K (.int .i64 (a q)) ⟨L ++ [drE r P (f 8) (f 9) A T B V], ro'⟩ → SemCall Tryd.prog 26 (List.toArray [.pointer (some (Addr.mk p 0 none)), .int .i64 (q : Int)]) ⟨L ++ [drE r P (f 8) (f 9) A T B V], ro'⟩ K := by
      intro K hK
      refine dq_at_c hs (fun _ h => by simp [h]) ?_
      rw [if_pos (by omega), Int.toNat_natCast, ← (I.r q hq).1]
      exact hK
    obtain ⟨ba, xa, hba, hxa, ra⟩ := RdSl.at (h := ⟨L ++ [drE r P (f 8) (f 9) A T B V], ro'⟩) hT.a.ro (i := (q : Int)) (by omega) (by have := hT.a.len; rw [ints_length, rm_len] at this; omega)
    rw [Int.toNat_natCast, rm_get _ hq] at hxa
    cases hxa
    have la := hT.a.len
    rw [ints_length, rm_len] at la
    have ne : (a q != a q) = false := by simp
    repeat' first
      | exact gi ⟨rfl, ne⟩
      | refine ag ⟨_, rfl, ?_⟩
      | refine rS0 (drE r P (f 8) (f 9) A T B V) (by simp) rfl rfl ⟨ba, hba, by omega, by omega, ?_⟩
      | refine ⟨_, ra, ?_⟩
      | refine ⟨?_, ?_⟩
  refine ⟨fun h => DqSt p r N ro i h, ?_, ?_⟩
  · refine VIf_eq (fun hl => ?_) (fun _ => gi ⟨L, f, hh, P, A, T, B, V, a, t, b, v, ro', rfl, hm, hT, hs, I⟩)
    obtain ⟨y0, y1, rfl⟩ : ∃ y0 y1, ys = [y0, y1] := len_two (by omega)
    obtain ⟨bb, z0, hb, hz0, _⟩ := (rd (own := []) hm).at (i := 0) (by omega) (by omega)
    have rd0 : ∀ {own ro2}, (∀ a v, ro a = some v → ro2 a = some v) → H.rd ⟨own, ro2⟩ (Addr.add (Addr.add bb (((0 : Int)).toNat * 1)) 0) (Value.int .i64 y0) := fun {own ro2} h => by
      obtain ⟨b', x, hb', hx, hrd⟩ := (rd (own := own) h).at (i := 0) (by omega) (by omega)
      rw [hb] at hb'; cases hb'
      simp only [Int.toNat_zero, List.getElem?_cons_zero, Option.some.injEq] at hx
      rw [hx]; exact hrd
    have rd1 : ∀ {own ro2}, (∀ a v, ro a = some v → ro2 a = some v) → H.rd ⟨own, ro2⟩ (Addr.add (Addr.add bb (((1 : Int)).toNat * 1)) 0) (Value.int .i64 y1) := fun {own ro2} h => by
      obtain ⟨b', x, hb', hx, hrd⟩ := (rd (own := own) h).at (i := 1) (by omega) (by omega)
      rw [hb] at hb'; cases hb'
      have hx : y1 = x := by simpa using hx
      rw [hx]; exact hrd
    have hs1 := hs.1
    refine ⟨bb, hb, by omega, by omega, y0, rd0 hm, VIf_ne (fun h0 => ?_) (fun h0 => ⟨bb, hb, by omega, by omega, y1, rd1 hm, VIf_dec (fun h1 => ?_) (fun h1 => ⟨bb, hb, by omega, by omega, y1, rd1 hm, ?_⟩)⟩)⟩
    · -- who steals
      refine ⟨⟨by omega, by omega⟩, in_c ⟨_, rfl, ?_⟩⟩
      refine ⟨fun e h => e = (dSteal N hh y0).2 ∧ ∃ A' V' a' v' ro2, (∀ a v, ro' a = some v → ro2 a = some v) ∧ h = ⟨L ++ [drE r P (f 8) (f 9) A' T B V'], ro2⟩ ∧ DqR ro2 N P A' T B V' f a' t b v' ∧ DPI N i f (dSteal N hh y0).1 a' t b v', VIf_dec (fun hc => ?_) (fun hc => gi ⟨?_, A, V, a, v, ro', fun _ _ h => h, rfl, hT, ?_⟩), ?_⟩
      · obtain ⟨q, rfl⟩ : ∃ q : Nat, y0 = (q : Int) := ⟨y0.toNat, by omega⟩
        have hq : q < N := by omega
        refine dr_get (a0 := P) (a1 := f 8) (a2 := f 9) (a3 := A) (a4 := T) (a5 := B) (a6 := V) (by simp) ?_
        refine ref_dbegin_c hT hN4 hq (fun A' V' ro2 q2 hT2 => ⟨P, f 8, f 9, A', T, B, V', _, rfl, dr_put (r := r) (a0 := P) (a1 := f 8) (a2 := f 9) (a3 := A') (a4 := T) (a5 := B) (a6 := V') (z0 := P) (z1 := f 8) (z2 := f 9) (z3 := A) (z4 := T) (z5 := B) (z6 := V) L [] rfl (gi ?_)⟩)
        have e0 : a q = hh (q * 4) := (I.r q hq).1
        unfold dSteal
        rw [if_neg (not_not_intro ⟨by omega, by omega⟩), Int.toNat_natCast, ← e0]
        by_cases z : a q = 0
        · rw [if_neg (not_not_intro z), if_neg (not_not_intro z)] at hT2
          rw [if_neg (not_not_intro z), if_neg (not_not_intro z)]
          exact ⟨rfl, A', V', _, _, ro2, q2, rfl, hT2, I.begin hq (by omega) z (.inr ⟨by omega, rfl⟩) ⟨by omega, by omega⟩ (fun _ => rfl)⟩
        · rw [if_pos z, if_pos z] at hT2
          rw [if_pos z, if_pos z]
          exact ⟨rfl, A', V', _, _, ro2, q2, rfl, hT2, I⟩
      · unfold dSteal; rw [if_pos hc]
      · unfold dSteal; rw [if_pos hc]; exact I
      rintro _ e _ ⟨rfl, A', V', a', v', ro2, q2, rfl, hT2, I2⟩
      have hm2 : ∀ a v, ro a = some v → ro2 a = some v := fun a v h => q2 a v (hm a v h)
      refine dq_steal_c [] _ rfl hs (fun L' hs' => ⟨_, rfl, same_error_c (hG.up hm2) ⟨_, rfl, VIf_nb (fun h => absurd rfl (of_decide_eq_false h)) (fun _ => gi ⟨L', f, _, P, A', T, B, V', a', t, b, v', ro2, rfl, hm2, hT2, hs', I2⟩)⟩⟩)
    · -- who pops
      have hq : (0 : Nat) < N := by omega
      refine dr_get (a0 := P) (a1 := f 8) (a2 := f 9) (a3 := A) (a4 := T) (a5 := B) (a6 := V) (by simp) ?_
      refine ref_dbegin_c (q := 0) hT hN4 hq (fun A' V' ro2 q2 hT2 => ⟨P, f 8, f 9, A', T, B, V', _, rfl, dr_put (r := r) (a0 := P) (a1 := f 8) (a2 := f 9) (a3 := A') (a4 := T) (a5 := B) (a6 := V') (z0 := P) (z1 := f 8) (z2 := f 9) (z3 := A) (z4 := T) (z5 := B) (z6 := V) L [] rfl ?_⟩)
      have hm2 : ∀ a v, ro a = some v → ro2 a = some v := fun a v h => q2 a v (hm a v h)
      have e0 : a 0 = hh (0 * 4) := (I.r 0 hq).1
      refine dq_pop_c [] _ rfl hs (fun L' hs' => ⟨_, rfl, same_error_c (hG.up hm2) ⟨_, rfl, ?_⟩⟩)
      unfold dPop at hs' ⊢
      rw [← e0] at hs' ⊢
      by_cases z : a 0 = 0
      · rw [if_neg (not_not_intro z)] at hs' ⊢
        rw [if_neg (not_not_intro z), if_neg (not_not_intro z)] at hT2
        rw [if_neg (not_not_intro z)]
        exact VIf_nb (fun h => absurd rfl (of_decide_eq_false h)) (fun _ => gi ⟨L', f, _, P, A', T, B, V', _, t, b, _, ro2, rfl, hm2, hT2, hs', I.begin hq (by omega) z (.inl ⟨rfl, .inr rfl⟩) ⟨by omega, by omega⟩ (fun _ => rfl)⟩)
      · rw [if_pos z] at hs' ⊢
        rw [if_pos z, if_pos z] at hT2
        rw [if_pos z]
        exact VIf_nb (fun h => absurd rfl (of_decide_eq_false h)) (fun _ => gi ⟨L', f, _, P, A', T, B, V', _, t, b, _, ro2, rfl, hm2, hT2, hs', I⟩)
    · -- who pushes
      have hq : (0 : Nat) < N := by omega
      have e0 : a 0 = hh (0 * 4) := (I.r 0 hq).1
      refine ⟨fun e h => e = (dPush hh y1).2 ∧ ∃ A' V' a' v' ro2, (∀ a v, ro' a = some v → ro2 a = some v) ∧ h = ⟨L ++ [drE r P (f 8) (f 9) A' T B V'], ro2⟩ ∧ DqR ro2 N P A' T B V' f a' t b v' ∧ DPI N i f (dPush hh y1).1 a' t b v', VIf_dec (fun hc => ⟨bb, hb, by omega, by omega, ?_⟩) (fun hc => gi ⟨?_, A, V, a, v, ro', fun _ _ h => h, rfl, hT, ?_⟩), ?_⟩
      · have call : ∀ {K : Value → H → Prop}, (∀ A' V' a' v' ro2, (∀ a v, ro' a = some v → ro2 a = some v) → DqR ro2 N P A' T B V' f a' t b v' → DPI N i f (dPush hh y1).1 a' t b v' → K (.tuple (List.toArray [.agg (List.toArray (drC P (f 8) (f 9) A' T B V')), .int .i64 (dPush hh y1).2])) ⟨L ++ [drE r P (f 8) (f 9) A T B V], ro2⟩) →
            SemCall Tryd.prog 18 (List.toArray [.agg (List.toArray (drC P (f 8) (f 9) A T B V)), .int .i64 0, .int .i64 1, .int .i64 y1]) ⟨L ++ [drE r P (f 8) (f 9) A T B V], ro'⟩ K := by
          intro K hK
          refine ref_dbegin_c (q := 0) hT hN4 hq (fun A' V' ro2 q2 hT2 => ?_)
          unfold dPush at hK
          rw [if_neg (not_not_intro ⟨by omega, by omega⟩), ← e0] at hK
          by_cases z : a 0 = 0
          · rw [if_neg (not_not_intro z)] at hK
            rw [if_neg (not_not_intro z), if_neg (not_not_intro z)] at hT2
            rw [if_neg (not_not_intro z)]
            exact hK _ _ _ _ _ q2 hT2 (I.begin hq (by omega) z (.inl ⟨rfl, .inl rfl⟩) ⟨by omega, by omega⟩ (fun h => absurd rfl h))
          · rw [if_pos z] at hK
            rw [if_pos z, if_pos z] at hT2
            rw [if_pos z]
            exact hK _ _ _ _ _ q2 hT2 I
        repeat' first
          | exact call (fun A' V' a' v' ro2 q2 hT2 I2 => ⟨P, f 8, f 9, A', T, B, V', _, rfl, dr_put (r := r) (a0 := P) (a1 := f 8) (a2 := f 9) (a3 := A') (a4 := T) (a5 := B) (a6 := V') (z0 := P) (z1 := f 8) (z2 := f 9) (z3 := A) (z4 := T) (z5 := B) (z6 := V) L [] rfl (gi ⟨rfl, A', V', a', v', ro2, q2, rfl, hT2, I2⟩)⟩)
          | refine dr_get (a0 := P) (a1 := f 8) (a2 := f 9) (a3 := A) (a4 := T) (a5 := B) (a6 := V) (by simp) ?_
          | refine ⟨y1, rd1 hm, ?_⟩
          | refine ⟨?_, ?_⟩
      · unfold dPush; rw [if_pos (by omega)]
      · unfold dPush; rw [if_pos (by omega)]; exact I
      rintro _ e _ ⟨rfl, A', V', a', v', ro2, q2, rfl, hT2, I2⟩
      have hm2 : ∀ a v, ro a = some v → ro2 a = some v := fun a v h => q2 a v (hm a v h)
      refine ⟨bb, hb, by omega, by omega, y1, rd1 hm2, ?_⟩
      refine dq_push_c [] _ rfl hs (fun L' hs' => ⟨_, rfl, same_error_c (hG.up hm2) ⟨_, rfl, VIf_nb (fun h => absurd rfl (of_decide_eq_false h)) (fun _ => gi ⟨L', f, _, P, A', T, B, V', a', t, b, v', ro2, rfl, hm2, hT2, hs', I2⟩)⟩⟩)
  clear I hs hT hG' hr' hm
  rintro _ _ ⟨L, f, hh, P, A, T, B, V, a, t, b, v, ro', rfl, hm, hT, hs, I⟩
  have hG' := hG.up hm
  refine ⟨fun h => DqSt p r N ro (i + 1) h, ?_, fun _ h hS => fin h hS⟩
  refine VIf_eq (fun hl => ?_) (fun _ => gi ⟨L, f, hh, P, A, T, B, V, a, t, b, v, ro', rfl, hm, hT, hs, I.mono (by omega)⟩)
  obtain ⟨y0, rfl⟩ : ∃ y0, ys = [y0] := List.length_eq_one_iff.1 (by omega)
  obtain ⟨bb, z0, hb, hz0, _⟩ := (rd (own := []) hm).at (i := 0) (by omega) (by omega)
  have rd0 : ∀ {own ro2}, (∀ a v, ro a = some v → ro2 a = some v) → H.rd ⟨own, ro2⟩ (Addr.add (Addr.add bb (((0 : Int)).toNat * 1)) 0) (Value.int .i64 y0) := fun {own ro2} h => by
    obtain ⟨b', x, hb', hx, hrd⟩ := (rd (own := own) h).at (i := 0) (by omega) (by omega)
    rw [hb] at hb'; cases hb'
    simp only [Int.toNat_zero, List.getElem?_cons_zero, Option.some.injEq] at hx
    rw [hx]; exact hrd
  have hok : ∀ k, k < N → a k ≠ 0 → ROk f a t b k := fun k hk _ => I.rok hk (by omega)
  obtain ⟨S, hS⟩ : ∃ S, S = rStepE N f a t b v y0 := ⟨_, rfl⟩
  refine ⟨fun y d g e h => ∃ rr P' A' T' B' V' ro2, y = Addr.mk rr 0 none ∧ d = S.1.d ∧ g = S.1.g ∧ e = S.2 ∧ (∀ a v, ro' a = some v → ro2 a = some v) ∧ DqR ro2 N P' A' T' B' V' S.1.f S.1.a S.1.t S.1.b S.1.v ∧
    h = ⟨L ++ [drE r P (f 8) (f 9) A T B V] ++ [drE rr P' (S.1.f 8) (S.1.f 9) A' T' B' V'], ro2⟩, ⟨bb, hb, by omega, by omega, ?_⟩, ?_⟩
  · subst hS
    repeat' first
      | exact ref_dstepE_c hT hN4 hok (fun P' A' T' B' V' ro2 q hU2 => ⟨P', _, _, A', T', B', V', _, _, _, rfl, fun rr _ => dr_put (r := rr) (a0 := P') (a1 := (rStepE N f a t b v y0).1.f 8) (a2 := (rStepE N f a t b v y0).1.f 9) (a3 := A') (a4 := T') (a5 := B') (a6 := V') (z0 := ⟨none, 0, 0⟩) (z1 := 0) (z2 := 0) (z3 := ⟨none, 0, 0⟩) (z4 := ⟨none, 0, 0⟩) (z5 := ⟨none, 0, 0⟩) (z6 := ⟨none, 0, 0⟩) (L ++ [drE r P (f 8) (f 9) A T B V]) [] rfl (gi ⟨rr, P', A', T', B', V', ro2, rfl, rfl, rfl, rfl, q, hU2, rfl⟩)⟩)
      | exact ref_dstepE_c hT hN4 hok (fun P' A' T' B' V' ro2 q hU2 => ⟨P', _, _, A', T', B', V', _, _, _, rfl, dr_put (r := rn) (a0 := P') (a1 := (rStepE N f a t b v y0).1.f 8) (a2 := (rStepE N f a t b v y0).1.f 9) (a3 := A') (a4 := T') (a5 := B') (a6 := V') (z0 := ⟨none, 0, 0⟩) (z1 := 0) (z2 := 0) (z3 := ⟨none, 0, 0⟩) (z4 := ⟨none, 0, 0⟩) (z5 := ⟨none, 0, 0⟩) (z6 := ⟨none, 0, 0⟩) (L ++ [drE r P (f 8) (f 9) A T B V]) [] rfl (gi ⟨rn, P', A', T', B', V', ro2, rfl, rfl, rfl, rfl, q, hU2, rfl⟩)⟩)
      | refine dr_get (a0 := P) (a1 := f 8) (a2 := f 9) (a3 := A) (a4 := T) (a5 := B) (a6 := V) (by simp) ?_
      | refine ⟨y0, rd0 hm, ?_⟩
      | refine ⟨?_, ?_⟩
      | intro rn _
  rintro _ y d g e _ ⟨rr, P', A', T', B', V', ro2, rfl, rfl, rfl, rfl, q2, hU2, rfl⟩
  have hm2 : ∀ a v, ro a = some v → ro2 a = some v := fun a v h => q2 a v (hm a v h)
  refine dr_get (r := rr) (a0 := P') (a1 := S.1.f 8) (a2 := S.1.f 9) (a3 := A') (a4 := T') (a5 := B') (a6 := V') (by simp) ?_
  refine dr_put (r := r) (a0 := P') (a1 := S.1.f 8) (a2 := S.1.f 9) (a3 := A') (a4 := T') (a5 := B') (a6 := V') (z0 := P) (z1 := f 8) (z2 := f 9) (z3 := A) (z4 := T) (z5 := B) (z6 := V) L [drE rr P' (S.1.f 8) (S.1.f 9) A' T' B' V'] (by simp) ?_
  refine ⟨bb, hb, by omega, by omega, y0, rd0 hm2, ?_⟩
  -- the step, told alike
  refine SemCall.mono (p := fun w h => ∃ L1 h1, w = .tuple (List.toArray [.bool S.1.d, .int .i64 S.1.g, errV (eno 61 S.2)]) ∧ h = ⟨L1 ++ [drE r P' (S.1.f 8) (S.1.f 9) A' T' B' V', drE rr P' (S.1.f 8) (S.1.f 9) A' T' B' V'], ro2⟩ ∧ DqAt p N S.1.f h1 L1 ∧ DPI N (i + 1) S.1.f h1 S.1.a S.1.t S.1.b S.1.v) ?_ ?_
  rotate_left
  · rintro _ _ ⟨L1, h1, rfl, rfl, hs1, I1⟩
    refine ⟨_, _, _, rfl, ?_⟩
    refine ⟨fun x h => x = false ∧ DqSt p r N ro (i + 1) h, same_error_c (hG.up hm2) ⟨_, rfl, VIf_nb (fun h => absurd rfl (of_decide_eq_false h)) (fun _ => VIf_nb (fun h => by simp at h) (fun _ => ⟨⟨L1 ++ [drE r P' (S.1.f 8) (S.1.f 9) A' T' B' V'], ro2⟩, Gh.drop (by simp), by simp, L1, S.1.f, h1, P', A', T', B', V', S.1.a, S.1.t, S.1.b, S.1.v, ro2, rfl, hm2, hU2, hs1, I1⟩))⟩, ?_⟩
    rintro _ x h ⟨rfl, hS⟩
    exact VIf_b (nomatch ·) (fun _ => gi hS)
  by_cases hin : ¬ (0 ≤ y0 ∧ y0 ≤ (N : Int) - 1)
  · refine dq_out_c hs (fun _ h => by simp [h]) hin ?_
    have eS : S = (⟨f, a, t, b, v, false, 0⟩, 1) := by rw [hS]; unfold rStepE; rw [if_pos hin]
    rw [eS]
    exact ⟨L, hh, rfl, by simp, hs, I.mono (by omega)⟩
  obtain ⟨q, rfl⟩ : ∃ q : Nat, y0 = (q : Int) := ⟨y0.toNat, by omega⟩
  have hq : q < N := by omega
  have e0 : a q = hh (q * 4) := (I.r q hq).1
  refine dq_step_c [] _ rfl hs hq (I.ok hq (by omega)) (fun L' hs' => ?_)
  rw [List.nil_append]
  by_cases z : a q = 0
  · have eS : S = (⟨f, a, t, b, v, false, 0⟩, 7) := by rw [hS]; unfold rStepE; rw [if_neg hin, Int.toNat_natCast, if_pos z]
    have ed := dE0 (f := f) (h := hh) (q := q) (by rw [← e0]; exact z)
    rw [ed] at hs' ⊢
    rw [eS]
    exact ⟨L', hh, rfl, by simp, hs', I.mono (by omega)⟩
  · have eS : S = (rStep f a t b v q, 0) := by rw [hS]; unfold rStepE; rw [if_neg hin, Int.toNat_natCast, if_neg z]
    obtain ⟨k1, k2, k3, k4, k5⟩ := dp_sim I hq z (I.at hq)
    have I2 := I.step hq hi0 z
    rw [k1] at hs' I2
    rw [k2, k3, k4, eS]
    exact ⟨L', _, rfl, by simp, hs', I2⟩
end Go.Proofs.YtiaopgnnibidlaaDoor
