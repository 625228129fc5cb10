import Derived.Test.YtkokdeenniejjaaDoorRb
namespace Go.Proofs.YtkokdeenniejjaaDoor
open Go.Eng
set_option maxRecDepth 20000
def RpSt (p r : Nat) (ro : Addr → Option Value) (h : H) : Prop :=
  ∃ L D W d m w q rs ro', h = ⟨L ++ [lkE r D W], ro'⟩ ∧ (∀ a v, ro a = some v → ro' a = some v) ∧ LkR ro' D W d q ∧ RwAt p m w q L ∧ RwInv m w q rs ∧ RwRel d m w
theorem rows_up {ro ro' : Addr → Option Value} {st : SV} {rows : List (SV × List Int)} (hr : RdRowsOf ⟨[], ro⟩ st rows) (h : ∀ a v, ro a = some v → ro' a = some v) {own : List Ent} : RdRowsOf ⟨own, ro'⟩ st rows := hr.mono (by simp) h
theorem len_two {l : List Int} (h : l.length = 2) : ∃ a b, l = [a, b] := match l, h with | [a, b], _ => ⟨a, b, rfl⟩
theorem rp_bit {d : Nat → Int} {m w : Int} {q : List (Int × Bool)} {rs : List Int} (I : RwInv m w q rs) (r : RwRel d m w) {j : Nat} (hj : j < 8) : d j = 1 ↔ rwIn m (j : Int) = true := by
  rw [r j hj]
  by_cases hw : w = (j : Int) + 1
  · have hm : m = 0 := I.toRwPre.zero.2 (I.ex (by omega))
    rw [if_pos hw, hm, rw_bits_none j hj]; simp
  · rw [if_neg hw]; split <;> simp_all
theorem rp_two {d : Nat → Int} {m w : Int} (r : RwRel d m w) {j : Nat} (hj : j < 8) : d j = 2 ↔ w = (j : Int) + 1 := by
  rw [r j hj]
  by_cases hw : w = (j : Int) + 1
  · rw [if_pos hw]; simp [hw]
  · rw [if_neg hw]; split <;> simp [hw]
set_option maxHeartbeats 4000000 in
theorem rwPlays_c {st : SV} {rows : List (SV × List Int)} {ro : Addr → Option Value} {post : Value → H → Prop} (hG : HasErrT ro) (hr : RdRowsOf ⟨[], ro⟩ st rows) (hpost : ∀ h, post (.bool true) h) :
    SemCall Tryd.prog 5 (List.toArray [.slice st.a st.len st.cap]) ⟨[], ro⟩ post := by
  refine f5_call _ _ post ?_
  refine rw_new_c (fun p L hs => ⟨_, rfl, ?_⟩)
  rw [List.nil_append]
  refine ref_newlock_c (fun D ro0 hm0 hT0 => ⟨D, ⟨none, 0, 0⟩, rfl, ?_⟩)
  intro r _
  refine lk_put (r := r) (a0 := D) (a1 := ⟨none, 0, 0⟩) (z0 := ⟨none, 0, 0⟩) (z1 := ⟨none, 0, 0⟩) L [] rfl ?_
  refine ⟨fun h => RpSt p r ro h, ⟨fun m i h => RpSt p r ro h ∧ 0 ≤ i ∧ i ≤ 100 ∧ m = (100 - i).toNat, ⟨100, gi ⟨⟨L, D, ⟨none, 0, 0⟩, _, 0, 0, [], [], ro0, rfl, hm0, hT0, hs, RwInv.start, ?_⟩, by omega, by omega, rfl⟩⟩, ?_⟩, fun _ h _ => ret (hpost _)⟩
  · intro k hk
    rw [if_neg (by omega), rw_bits_none k hk]; rfl
  rintro k _ i h ⟨⟨L, D, W, d, m, w, q, rs, ro', rfl, hm, hT, hs, I, R⟩, hi0, hi1, rfl⟩
  have hr' : ∀ {own}, RdRowsOf ⟨own, ro'⟩ st rows := rows_up hr hm
  refine join_and (VIf_dec (fun hi => ?_) (fun _ => gi ⟨L, D, W, d, m, w, q, rs, ro', rfl, hm, hT, hs, I, R⟩))
  refine ⟨fun h => RpSt p r ro h, ?_, fun _ h hS => ⟨⟨by omega, by omega⟩, _, by omega, gi ⟨hS, by omega, by omega, rfl⟩⟩⟩
  refine RdRowsOf.idx (h := ⟨L ++ [lkE r D W], ro'⟩) hr' hi0 hi.1 (fun l ys hly _ => ?_)
  have rd : ∀ {own ro2}, (∀ a v, ro a = some v → ro2 a = some v) → RdSl ⟨own, ro2⟩ l (ints ys) := fun {own ro2} h => (rows_up hr (own := own) h).2 (l, ys) (List.mem_of_getElem? hly)
  have hyl : l.len = ys.length := by have := (rd (own := []) hm).len; rwa [ints_length] at this
  refine ⟨fun h => RpSt p r ro h, VIf_eq (fun hl => ?_) (fun _ => gi ⟨L, D, W, d, m, w, q, rs, ro', rfl, hm, hT, hs, I, R⟩), ?_⟩
  · -- asked
    obtain ⟨y0, y1, rfl⟩ : ∃ y0 y1, ys = [y0, y1] := len_two (by omega)
    have hql := I.toRwPre.qlen
    obtain ⟨bb, z0, hb, hz0, _⟩ := (rd (own := []) hm).at (i := 0) (by omega) (by omega)
    have rd0 : ∀ {own ro2}, (∀ a v, ro a = some v → ro2 a = some v) → H.rd ⟨own, ro2⟩ (Addr.add (Addr.add bb (((0 : Int)).toNat * 1)) 0) (Value.int .i64 y0) := fun {own ro2} h => by
      obtain ⟨b', x, hb', hx, hrd⟩ := (rd (own := own) h).at (i := 0) (by omega) (by omega)
      rw [hb] at hb'; cases hb'
      simp only [Int.toNat_zero, List.getElem?_cons_zero, Option.some.injEq] at hx
      rw [hx]; exact hrd
    have rd1 : ∀ {own ro2}, (∀ a v, ro a = some v → ro2 a = some v) → H.rd ⟨own, ro2⟩ (Addr.add (Addr.add bb (((1 : Int)).toNat * 1)) 0) (Value.int .i64 y1) := fun {own ro2} h => by
      obtain ⟨b', x, hb', hx, hrd⟩ := (rd (own := own) h).at (i := 1) (by omega) (by omega)
      rw [hb] at hb'; cases hb'
      have hx : y1 = x := by simpa using hx
      rw [hx]; exact hrd
    refine ⟨bb, hb, by omega, by omega, y1, rd1 hm, ?_⟩
    obtain ⟨wr, hwr⟩ : ∃ wr, wr = (y1 == 1) := ⟨_, rfl⟩
    refine ⟨fun x h => x = bI wr ∧ h = ⟨L ++ [lkE r D W], ro'⟩, VIf_eq (fun h => gi ⟨by rw [hwr, h]; rfl, rfl⟩) (fun h => gi ⟨by rw [hwr, beq_false_of_ne h]; rfl, rfl⟩), ?_⟩
    rintro _ _ _ ⟨rfl, rfl⟩
    refine ⟨fun y has e h => ∃ rr D' W' ro2, y = Addr.mk rr 0 none ∧ has = (dAsk d q y0 wr).2.2.1 ∧ e = (dAsk d q y0 wr).2.2.2 ∧ (∀ a v, ro' a = some v → ro2 a = some v) ∧ LkR ro2 D' W' (dAsk d q y0 wr).1 (dAsk d q y0 wr).2.1 ∧ h = ⟨L ++ [lkE r D W] ++ [lkE rr D' W'], ro2⟩,
      ⟨bb, hb, by omega, by omega, ?_⟩, ?_⟩
    · repeat' first
        | exact ref_ask_c hT (by omega) (fun D' W' ro2 q2 hT2 => ⟨D', W', _, _, rfl, fun rr _ => lk_put (r := rr) (a0 := D') (a1 := W') (z0 := ⟨none, 0, 0⟩) (z1 := ⟨none, 0, 0⟩) (L ++ [lkE r D W]) [] rfl (gi ⟨rr, D', W', ro2, rfl, rfl, rfl, q2, hT2, rfl⟩)⟩)
        | exact ref_ask_c hT (by omega) (fun D' W' ro2 q2 hT2 => ⟨D', W', _, _, rfl, lk_put (r := rn) (a0 := D') (a1 := W') (z0 := ⟨none, 0, 0⟩) (z1 := ⟨none, 0, 0⟩) (L ++ [lkE r D W]) [] rfl (gi ⟨rn, D', W', ro2, rfl, rfl, rfl, q2, hT2, rfl⟩)⟩)
        | refine lk_get (a0 := D) (a1 := W) (by simp) ?_
        | refine ⟨y0, rd0 hm, ?_⟩
        | refine ⟨?_, ?_⟩
        | intro rn _
    rintro _ y has e _ ⟨rr, D', W', ro2, rfl, rfl, rfl, q2, hT2, rfl⟩
    have hm2 : ∀ a v, ro a = some v → ro2 a = some v := fun a v h => q2 a v (hm a v h)
    refine lk_get (r := rr) (a0 := D') (a1 := W') (by simp) ?_
    refine lk_put (r := r) (a0 := D') (a1 := W') (z0 := D) (z1 := W) L [lkE rr D' W'] (by simp) ?_
    obtain ⟨a1, a2, a3, a4⟩ := rp_ask (q := q) I.toRwPre.rg4 R y0 wr
    have ask : ∀ {K : Value → H → Prop}, (∀ L', RwAt p (rwAsk m w q y0 wr).1 (rwAsk m w q y0 wr).2.1 (rwAsk m w q y0 wr).2.2.1 L' → K (.tuple (List.toArray [.bool (rwAsk m w q y0 wr).2.2.2.1, errV (eno 66 (rwAsk m w q y0 wr).2.2.2.2)])) ⟨L' ++ [lkE r D' W', lkE rr D' W'], ro2⟩) →
        SemCall Tryd.prog 30 (List.toArray [.pointer (some (Addr.mk p 0 none)), .int .i64 y0, .bool (y1 == 1)]) ⟨L ++ lkE r D' W' :: [lkE rr D' W'], ro2⟩ K := by
      intro K hK
      rw [← hwr]
      exact rw_ask_c [] [lkE r D' W', lkE rr D' W'] rfl hs (by omega) (fun L' h' => hK L' h')
    refine ⟨fun is er h => is = (rwAsk m w q y0 wr).2.2.2.1 ∧ er = eno 66 (rwAsk m w q y0 wr).2.2.2.2 ∧ ∃ L', h = ⟨L' ++ [lkE r D' W'], ro2⟩ ∧ RwAt p (rwAsk m w q y0 wr).1 (rwAsk m w q y0 wr).2.1 (rwAsk m w q y0 wr).2.2.1 L',
      ⟨bb, hb, by omega, by omega, bb, hb, by omega, by omega, ⟨y0, rd0 hm2, y1, rd1 hm2, ask (fun L' h' => ⟨_, _, rfl, _, rfl, ⟨_, Gh.drop (by simp), rfl, rfl, L', rfl, h'⟩⟩)⟩, ⟨y1, rd1 hm2, y0, rd0 hm2, ask (fun L' h' => ⟨_, _, rfl, _, rfl, ⟨_, Gh.drop (by simp), rfl, rfl, L', rfl, h'⟩⟩)⟩⟩, ?_⟩
    rintro _ is er _ ⟨rfl, rfl, L', rfl, hs'⟩
    obtain ⟨rs', I'⟩ := I.ask y0 wr
    refine ⟨fun b h => b = false ∧ RpSt p r ro h, same_error_c (hG.up hm2) ⟨_, rfl, VIf_nb (fun h => absurd a3.symm (of_decide_eq_false h)) (fun _ => gi ⟨by rw [a2]; simp, L', D', W', _, _, _, _, rs', ro2, rfl, hm2, ?_, hs', I', a4⟩)⟩, ?_⟩
    · rw [← a1]; exact hT2
    rintro _ b h ⟨rfl, hS⟩
    exact VIf_b (nomatch ·) (fun _ => gi hS)
  clear I R hs hT hr' hm
  rintro _ _ ⟨L, D, W, d, m, w, q, rs, ro', rfl, hm, hT, hs, I, R⟩
  refine ⟨fun h => RpSt p r ro h, VIf_eq (fun hl => ?_) (fun _ => gi ⟨L, D, W, d, m, w, q, rs, ro', rfl, hm, hT, hs, I, R⟩), ?_⟩
  · -- done
    obtain ⟨y0, rfl⟩ : ∃ y0, ys = [y0] := List.length_eq_one_iff.1 (by omega)
    have hql := I.toRwPre.qlen
    have hqr := I.toRwPre.qrg
    obtain ⟨bb, z0, hb, hz0, _⟩ := (rd (own := []) hm).at (i := 0) (by omega) (by omega)
    have rd0 : ∀ {own ro2}, (∀ a v, ro a = some v → ro2 a = some v) → H.rd ⟨own, ro2⟩ (Addr.add (Addr.add bb (((0 : Int)).toNat * 1)) 0) (Value.int .i64 y0) := fun {own ro2} h => by
      obtain ⟨b', x, hb', hx, hrd⟩ := (rd (own := own) h).at (i := 0) (by omega) (by omega)
      rw [hb] at hb'; cases hb'
      simp only [Int.toNat_zero, List.getElem?_cons_zero, Option.some.injEq] at hx
      rw [hx]; exact hrd
    refine ⟨fun y who e h => ∃ rr D' W' ro2 X eo, y = Addr.mk rr 0 none ∧ e = (dDone4 d q y0).2 ∧ (∀ a v, ro' a = some v → ro2 a = some v) ∧ LkR ro2 D' W' (dDone4 d q y0).1.1 (dDone4 d q y0).1.2.1 ∧ OwnsSl 1 who eo (ints (dDone4 d q y0).1.2.2) ∧ h = ⟨L ++ lkE r D W :: X, ro2⟩ ∧ (X = [eo, lkE rr D' W'] ∨ X = [lkE rr D' W', eo]),
      ⟨bb, hb, by omega, by omega, ?_⟩, ?_⟩
    · repeat' first
        | exact ref_done_c hT (by omega) hqr (fun D' W' ro2 s' eo q2 hT2 ho => ⟨D', W', s', _, rfl, fun rr _ => lk_put (r := rr) (a0 := D') (a1 := W') (z0 := ⟨none, 0, 0⟩) (z1 := ⟨none, 0, 0⟩) (L ++ [lkE r D W] ++ [eo]) [] rfl (gi ⟨rr, D', W', ro2, [eo, lkE rr D' W'], eo, rfl, rfl, q2, hT2, ho, by simp, .inl rfl⟩)⟩)
        | exact ref_done_c hT (by omega) hqr (fun D' W' ro2 s' eo q2 hT2 ho => ⟨D', W', s', _, rfl, lk_put (r := rn) (a0 := D') (a1 := W') (z0 := ⟨none, 0, 0⟩) (z1 := ⟨none, 0, 0⟩) (L ++ [lkE r D W]) [eo] (by rw [List.append_assoc]; rfl) (gi ⟨rn, D', W', ro2, [lkE rn D' W', eo], eo, rfl, rfl, q2, hT2, ho, by simp, .inr rfl⟩)⟩)
        | refine lk_get (a0 := D) (a1 := W) (by simp) ?_
        | refine ⟨y0, rd0 hm, ?_⟩
        | refine ⟨?_, ?_⟩
        | intro rn _
    rintro _ y who e _ ⟨rr, D', W', ro2, X, eo, rfl, rfl, q2, hT2, hoe, rfl, hX⟩
    have hm2 : ∀ a v, ro a = some v → ro2 a = some v := fun a v h => q2 a v (hm a v h)
    have mX1 : lkE rr D' W' ∈ X := by rcases hX with rfl | rfl <;> simp
    have mX2 : eo ∈ X := by rcases hX with rfl | rfl <;> simp
    refine lk_get (r := rr) (a0 := D') (a1 := W') (by simp [mX1]) ?_
    refine lk_put (r := r) (a0 := D') (a1 := W') (z0 := D) (z1 := W) L X rfl ?_
    refine ⟨bb, hb, by omega, by omega, y0, rd0 hm2, ?_⟩
    obtain ⟨a1, a2, a3, a4⟩ := rp_done I R y0
    obtain ⟨rs', I', _⟩ := I.done y0
    refine rw_done_c [] (lkE r D' W' :: X) rfl hs (by omega) hqr (fun L' s' e' hs' ho' => ⟨_, _, rfl, ?_⟩)
    have hl' := ho'.sl_len
    rw [ints_length] at hl'
    have hlq : (rwDone m w q y0).1.2.2.2.length ≤ q.length := by
      obtain ⟨_, _, _, h3, _⟩ := I.done y0
      have := congrArg List.length h3
      simp at this; omega
    refine ⟨fun b h => b = false ∧ RpSt p r ro h, same_error_c (hG.up hm2) ⟨_, rfl, VIf_nb (fun h => absurd a3.symm (of_decide_eq_false h)) (fun _ => same_ints_c (RdSl.of_own (e := e') (by simp) ho') (RdSl.of_own (e := eo) (by simp [mX2]) hoe) (by omega) ⟨_, rfl, ⟨⟨L' ++ [lkE r D' W'], ro2⟩, Gh.drop ?_, ?_, L', D', W', _, _, _, _, rs', ro2, rfl, hm2, ?_, hs', I', a4⟩⟩)⟩, ?_⟩
    · rcases hX with rfl | rfl <;> simp
    · rw [a2, decide_eq_true rfl]; rfl
    · rw [← a1]; exact hT2
    rintro _ b h ⟨rfl, hS⟩
    exact VIf_b (nomatch ·) (fun _ => gi hS)
  clear I R hs hT hm
  rintro _ _ ⟨L, D, W, d, m, w, q, rs, ro', rfl, hm, hT, hs, I, R⟩
  have hS : RpSt p r ro ⟨L ++ [lkE r D W], ro'⟩ := ⟨L, D, W, d, m, w, q, rs, ro', rfl, hm, hT, hs, I, R⟩
  have g := I.toRwPre.rg4
  have g0 := g.w0
  have g1 := g.w1
  have hql := I.toRwPre.qlen
  have em : ((m.toNat : Nat) : Int) = m := by have := g.m0; omega
  have hm8 : m.toNat < 256 := by have := g.m1; have := g.m0; omega
  have sb := sbits_all m.toNat hm8
  have sr := fun k hk => sbits_rg m.toNat hm8 k hk
  rw [em] at sb sr
  refine ⟨fun reads writes h => h = ⟨L ++ [lkE r D W], ro'⟩ ∧ reads = m ∧ writes = w - 1,
    ⟨fun n reads writes pw k h => h = ⟨L ++ [lkE r D W], ro'⟩ ∧ ∃ j : Nat, k = j ∧ j ≤ 8 ∧ n = 8 - j ∧ reads = sbits m j ∧ pw = 2 ^ j ∧ writes = (if 1 ≤ w ∧ w ≤ j then w - 1 else -1), ⟨8, gi ⟨rfl, 0, rfl, by omega, rfl, rfl, rfl, by rw [if_neg (by omega)]⟩⟩, ?_⟩, ?_⟩
  · rintro n _ reads writes pw k _ ⟨rfl, j, rfl, hj8, rfl, rfl, rfl, hwv⟩
    refine VIf_dec (fun hk => ?_) (fun hk => gi ⟨rfl, ?_, ?_⟩)
    rotate_left
    · rw [show j = 8 by omega, sb]
    · rw [hwv]
      by_cases h : 1 ≤ w ∧ w ≤ (j : Int)
      · rw [if_pos h]
      · rw [if_neg h]; omega
    have hj : j < 8 := by omega
    have s1 := sr j (by omega)
    have s2 := sr (j + 1) (by omega)
    have pr := pow_rg j (by omega)
    refine rS0 (lkE r D W) (by simp) rfl rfl (lk_at hT.d (by omega) (by omega) ?_)
    rw [Int.toNat_natCast]
    refine ⟨fun x h => h = ⟨L ++ [lkE r D W], ro'⟩ ∧ x = sbits m (j + 1), VIf_eq (fun h1 => ⟨⟨by omega, by omega⟩, gi ⟨rfl, ?_⟩⟩) (fun h1 => gi ⟨rfl, ?_⟩), ?_⟩
    · simp only [sbits]; rw [if_pos ((rp_bit I R hj).1 h1)]
    · simp only [sbits]; rw [if_neg (fun h => h1 ((rp_bit I R hj).2 h)), Int.add_zero]
    rintro _ x _ ⟨rfl, rfl⟩
    refine rS0 (lkE r D W) (by simp) rfl rfl (lk_at hT.d (by omega) (by omega) ?_)
    rw [Int.toNat_natCast]
    refine ⟨fun x h => h = ⟨L ++ [lkE r D W], ro'⟩ ∧ x = (if 1 ≤ w ∧ w ≤ ((j + 1 : Nat) : Int) then w - 1 else -1), VIf_eq (fun h1 => gi ⟨rfl, ?_⟩) (fun h1 => gi ⟨rfl, ?_⟩), ?_⟩
    · have := (rp_two R hj).1 h1
      rw [if_pos (by omega)]; omega
    · have : ¬ w = (j : Int) + 1 := fun h => h1 ((rp_two R hj).2 h)
      rw [hwv]
      by_cases h : 1 ≤ w ∧ w ≤ (j : Int)
      · rw [if_pos h, if_pos (by omega)]
      · rw [if_neg h, if_neg (by omega)]
    rintro _ x _ ⟨rfl, rfl⟩
    exact ⟨⟨by omega, by omega⟩, ⟨by omega, by omega⟩, 8 - (j + 1), by omega, gi ⟨rfl, j + 1, by omega, by omega, rfl, rfl, by rw [Int.pow_succ], rfl⟩⟩
  rintro _ reads writes _ ⟨rfl, rfl, rfl⟩
  have hwl := hT.wl
  refine ⟨fun ws h => ∃ ew, h = ⟨L ++ [lkE r D W] ++ [ew], ro'⟩ ∧ OwnsSl 1 ws ew (ints (q.map (·.1))),
    ⟨fun n ws k h => ∃ (ew : Ent) (j : Nat), h = ⟨L ++ [lkE r D W] ++ [ew], ro'⟩ ∧ OwnsSl 1 ws ew (ints ((q.take j).map (·.1))) ∧ k = j ∧ j ≤ q.length ∧ n = q.length - j,
      ⟨q.length, ⟨L ++ [lkE r D W] ++ [⟨none, [], 0⟩], ro'⟩, by simpa using Gh.phantom (L ++ [lkE r D W]) [] ro' 0, _, 0, rfl, OwnsSl.nil 1, rfl, by omega, rfl⟩, ?_⟩, ?_⟩
  · rintro n _ ws k _ ⟨ew, j, rfl, ow, rfl, hj, rfl⟩
    have hol := ow.sl_len
    simp only [ints_length, List.length_map, List.length_take] at hol
    refine rS0 (lkE r D W) (by simp) rfl rfl (VIf_dec (fun hk => ?_) (fun hk => gi ⟨ew, rfl, ?_⟩))
    rotate_left
    · rw [List.take_of_length_le (by omega)] at ow; exact ow
    have hjl : j < q.length := by omega
    obtain ⟨bw, s, c, k1, k2, k3, k4, k5, k6, k7⟩ := hT.row (i := (j : Int)) (by omega) (x := q[j]) (by rw [Int.toNat_natCast, List.getElem?_eq_getElem hjl])
    refine rS0 (lkE r D W) (by simp) rfl rfl ⟨bw, k1, by omega, k2, s, k3 _, c, k4, by omega, by omega, q[j].1, k6 _, ?_⟩
    refine app_row grows_ints (vs := [.int .i64 q[j].1]) rfl ⟨rfl, trivial⟩ (L ++ [lkE r D W]) ew [] rfl ow (by omega) (fun s' e' o _ => ?_)
    refine ⟨⟨by omega, by omega⟩, q.length - (j + 1), by omega, gi ⟨e', j + 1, rfl, ?_, by omega, by omega, rfl⟩⟩
    rw [List.take_add_one, List.getElem?_eq_getElem hjl, List.map_append]
    simpa [ints, intV] using o
  rintro _ ws _ ⟨ew, rfl, ow⟩
  have hol := ow.sl_len
  simp only [ints_length, List.length_map] at hol
  refine ⟨fun b h => b = false ∧ RpSt p r ro h, ?_, ?_⟩
  · refine rw_reads_c hs (fun _ h => by simp [h]) ⟨_, rfl, VIf_ne (fun h => absurd rfl h) (fun _ => rw_writes_c hs (fun _ h => by simp [h]) g0 g1 ⟨_, rfl, VIf_ne (fun h => absurd rfl h) (fun _ => rw_waits_c hs (fun _ h => by simp [h]) (by omega) (fun s' e' o => ⟨s', rfl, ?_⟩))⟩)⟩
    have hl' := o.sl_len
    simp only [ints_length, List.length_map] at hl'
    refine same_ints_c (RdSl.of_own (e := e') (by simp) o) (RdSl.of_own (e := ew) (by simp) ow) (by omega) ⟨_, rfl, ⟨⟨L ++ [lkE r D W], ro'⟩, Gh.drop (by simp), by simp, hS⟩⟩
  rintro _ b h ⟨rfl, hS⟩
  exact VIf_b (nomatch ·) (fun _ => gi hS)
end Go.Proofs.YtkokdeenniejjaaDoor
