import Derived.Test.YtnecppjgcbhnaaaDoorUw
namespace Go.Proofs.YtnecppjgcbhnaaaDoor
open Go.Eng
set_option maxRecDepth 20000
/-! ### the law -/
def UpSt (p r20 n : Nat) (ro : Addr → Option Value) (h : H) : Prop :=
  ∃ L u m A B C D E ro' adds cells ats deeds cellz, h = ⟨L ++ [uvE r20 A B C D E], ro'⟩ ∧ (∀ a v, ro a = some v → ro' a = some v) ∧ UvR ro' A B C D E adds cells ats deeds cellz ∧ UnivAt p u L ∧ UInv u m ∧ UpR u m adds cells ats deeds cellz ∧ u.hands.length = n
theorem rows_up {ro ro' : Addr → Option Value} {st : SV} {rows : List (SV × List Int)} (hr : RdRowsOf ⟨[], ro⟩ st rows) (h : ∀ a v, ro a = some v → ro' a = some v) {own : List Ent} : RdRowsOf ⟨own, ro'⟩ st rows := hr.mono (by simp) h
theorem len_two {l : List Int} (h : l.length = 2) : ∃ a b, l = [a, b] := match l, h with | [a, b], _ => ⟨a, b, rfl⟩
theorem at_le {ats : List Int} {q : Nat} {x : Int} {u : Univ} (ht : ats = u.hands.map UHand.ln) (hx : ats[q]? = some x) : ((u.hands[q]?).map UHand.ln).getD 0 = x := by
  subst ht
  rw [List.getElem?_map] at hx
  rw [hx]; rfl
set_option maxHeartbeats 4000000 in
theorem univPlays_c {n : Int} {st : SV} {rows : List (SV × List Int)} {ro : Addr → Option Value} {post : Value → H → Prop} (hG : HasErrT ro) (hr : RdRowsOf ⟨[], ro⟩ st rows) (hpost : ∀ h, post (.bool true) h) :
    SemCall Tryd.prog 4 (List.toArray [.int .i64 n, .slice st.a st.len st.cap]) ⟨[], ro⟩ post := by
  refine f4_call _ _ _ post ?_
  refine univ_new_c (fun hc => ⟨_, _, rfl, join_or ?_⟩) (fun p L hs c0 c1 => ⟨_, none, rfl, join_or ?_⟩)
  · rw [show decide (n < 1 ∨ n > 4) = true from decide_eq_true (by omega)]
    exact VIf_b (fun _ => same_error_c hG ⟨_, rfl, ret (hpost _)⟩) (nomatch ·)
  rw [show decide (n < 1 ∨ n > 4) = false from decide_eq_false (by omega)]
  obtain ⟨N, rfl⟩ : ∃ N : Nat, n = (N : Int) := ⟨n.toNat, by omega⟩
  rw [Int.toNat_natCast] at hs
  refine VIf_b (nomatch ·) (fun _ => VIf_nnil (ref_unew_c (by omega) (fun A B C D E ro0 hm0 hU0 => ⟨A, B, C, D, E, rfl, ?_⟩)))
  rw [List.nil_append]
  intro r20 _
  refine uv_put (r := r20) (a0 := A) (a1 := B) (a2 := C) (a3 := D) (a4 := E) (z0 := ⟨none, 0, 0⟩) (z1 := ⟨none, 0, 0⟩) (z2 := ⟨none, 0, 0⟩) (z3 := ⟨none, 0, 0⟩) (z4 := ⟨none, 0, 0⟩) L [] rfl ?_
  refine ⟨fun h => UpSt p r20 N ro h, ⟨fun m i h => UpSt p r20 N ro h ∧ 0 ≤ i ∧ i ≤ 200 ∧ m = (200 - i).toNat, ⟨200, gi ⟨⟨L, _, 0, A, B, C, D, E, ro0, [], [], List.replicate N 0, List.replicate N 0, List.replicate N 0, rfl, hm0, hU0, hs, UInv.start (by omega), ⟨rfl, by simp, by simp, by simp, by simp, fun q h hq h0 => ?_⟩, by simp⟩, by omega, by omega, rfl⟩⟩, ?_⟩, ?_⟩
  · dsimp only at hq
    rw [List.getElem?_replicate] at hq
    split at hq
    · cases hq; exact absurd rfl h0
    · cases hq
  rotate_left
  · -- the order
    rintro _ _ ⟨L, u, m, A, B, C, D, E, ro', adds, cells, ats, deeds, cellz, rfl, hm, hU, hs, I, R, hn⟩
    have hG' := hG.up hm
    have hc01 : ∀ x ∈ u.cells, 0 ≤ x ∧ x ≤ 1000 := by
      intro x hx
      obtain ⟨i, hi⟩ := List.mem_iff_getElem?.1 hx
      by_cases him : i < m
      · have := I.z0 i x hi him; have := I.d; omega
      · have := I.z1 i x hi (by omega); omega
    have ho : univOrder u.cells = cells := by rw [R.c]; exact order_take (fun i x hx hi => (I.z0 i x hx hi).1) I.z1
    have hlu : (univOrder u.cells).length ≤ 41 := by have := univOrder_len u.cells; have := I.c; omega
    have key : ∀ {s' : SV} {e' : Ent} {K : Bool → H → Prop}, OwnsSl 1 s' e' (ints (univOrder u.cells)) → (∀ h, K true h) → SemCall Tryd.prog 16 (List.toArray [.slice s'.a s'.len s'.cap, .slice B.a B.len B.cap]) ⟨L ++ [uvE r20 A B C D E] ++ [e'], ro'⟩ fun v h => ∃ x : Bool, v = .bool x ∧ VIf x (
        SemCall Tryd.prog 24 (List.toArray [.pointer (some (Addr.mk p 0 none)), .int .i64 (-1)]) h fun v h => ∃ y : Int, v = .int .i64 y ∧ VIf (y == 0) (
          SemCall Tryd.prog 24 (List.toArray [.pointer (some (Addr.mk p 0 none)), .int .i64 (N : Int)]) h fun v h => ∃ z : Int, v = .int .i64 z ∧ (∃ h2, Gh h h2 ∧ K (z == 0) h2)) (∃ h2, Gh h h2 ∧ K false h2)) (∃ h2, Gh h h2 ∧ K false h2) := by
      intro s' e' K o hK
      refine same_ints_c (ys := cells) (RdSl.of_own (e := e') (by simp) o) hU.b.ro (by have := o.sl_len; rw [ints_length] at this; omega) ⟨_, rfl, ?_⟩
      rw [ho, decide_eq_true rfl]
      refine VIf_b (fun _ => ?_) (nomatch ·)
      refine univ_at_c hs (fun _ h => by simp [h]) I.n ⟨_, rfl, ?_⟩
      rw [if_neg (by omega)]
      refine VIf_eq (fun _ => ?_) (fun h => absurd rfl h)
      refine univ_at_c hs (fun _ h => by simp [h]) I.n ⟨_, rfl, ?_⟩
      rw [if_neg (by omega)]
      exact gi (hK _)
    refine ⟨fun b _ => b = true, ⟨?_, ?_⟩, fun _ b h hb => by rw [hb]; exact ret (hpost _)⟩
    · refine univ_order_c hs (fun _ h => by simp [h]) hc01 (fun s' e' o => ⟨s', rfl, rS0 (uvE r20 A B C D E) (by simp) rfl rfl ?_⟩)
      exact key (K := fun b _ => b = true) o (fun _ => rfl)
    · refine rS0 (uvE r20 A B C D E) (by simp) rfl rfl (univ_order_c hs (fun _ h => by simp [h]) hc01 (fun s' e' o => ⟨s', rfl, ?_⟩))
      exact key (K := fun b _ => b = true) o (fun _ => rfl)
  rintro k _ i h ⟨⟨L, u, m, A, B, C, D, E, ro', adds, cells, ats, deeds, cellz, rfl, hm, hU, hs, I, R, hn⟩, hi0, hi1, rfl⟩
  have hr' : ∀ {own}, RdRowsOf ⟨own, ro'⟩ st rows := rows_up hr hm
  refine join_and (VIf_dec (fun hi => ?_) (fun _ => gi ⟨L, u, m, A, B, C, D, E, ro', adds, cells, ats, deeds, cellz, rfl, hm, hU, hs, I, R, hn⟩))
  refine ⟨fun h => UpSt p r20 N ro h, ?_, fun _ h hS => ⟨⟨by omega, by omega⟩, _, by omega, gi ⟨hS, by omega, by omega, rfl⟩⟩⟩
  refine RdRowsOf.idx (h := ⟨L ++ [uvE r20 A B C D E], ro'⟩) hr' hi0 hi.1 (fun l ys hly _ => ?_)
  have rd : ∀ {own ro2}, (∀ a v, ro a = some v → ro2 a = some v) → RdSl ⟨own, ro2⟩ l (ints ys) := fun {own ro2} h => (rows_up hr (own := own) h).2 (l, ys) (List.mem_of_getElem? hly)
  have hyl : l.len = ys.length := by have := (rd (own := []) hm).len; rwa [ints_length] at this
  -- what refs want
  have want : ∀ {u : Univ} {m : Nat} {adds cells ats deeds cellz : List Int}, UInv u m → UpR u m adds cells ats deeds cellz → ats.length ≤ 4 ∧ deeds.length = ats.length ∧ cellz.length = ats.length ∧ adds.length ≤ 40 ∧ cells.length ≤ 41 ∧ (∀ x ∈ adds, 0 ≤ x ∧ x ≤ 1000) ∧ (∀ x ∈ cells, 0 ≤ x ∧ x < adds.length) ∧
      ∀ q : Int, 0 ≤ q ∧ q ≤ (ats.length : Int) - 1 → gI ats q.toNat ≠ 0 → 0 ≤ gI cellz q.toNat ∧ gI cellz q.toNat ≤ cells.length ∧ (gI ats q.toNat ≠ 1 → gI cellz q.toNat < cells.length) := by
    intro u m adds cells ats deeds cellz I R
    obtain ⟨ra, rc, rt, nd, nc, rh⟩ := R
    have hm1 := I.m1
    have hcl := I.c
    have lc : cells.length = m := by rw [rc, List.length_map, List.length_take]; omega
    have lt : ats.length = u.hands.length := by rw [rt, List.length_map]
    refine ⟨by rw [lt]; exact I.n, by omega, by omega, by rw [ra, List.length_map]; exact I.d, by omega, ?_, ?_, ?_⟩
    · intro x hx
      rw [ra, List.mem_map] at hx
      obtain ⟨d, hd, rfl⟩ := hx
      exact I.a d hd
    · intro x hx
      rw [rc, List.mem_map] at hx
      obtain ⟨y, hy, rfl⟩ := hx
      obtain ⟨i, hi⟩ := List.mem_iff_getElem?.1 hy
      rw [List.getElem?_take] at hi
      split at hi
      · have := I.z0 i y hi (by assumption)
        rw [ra, List.length_map]; omega
      · cases hi
    · intro q hq h0
      obtain ⟨g, hg⟩ : ∃ g, u.hands[q.toNat]? = some g := ⟨_, List.getElem?_eq_getElem (by omega)⟩
      have e1 : gI ats q.toNat = g.ln := by rw [rt]; exact gI_ln hg
      rw [e1] at h0 ⊢
      obtain ⟨q1, q2⟩ := rh _ g hg h0
      rw [gI_of q2, lc]
      have hh := I.ha g (List.mem_of_getElem? hg) h0
      exact ⟨hh.c0, hh.c1, fun hne => (hh.l2 (hh.ln.resolve_left hne)).1⟩
  refine ⟨fun h => UpSt p r20 N ro h, ?_, ?_⟩
  · refine VIf_eq (fun hl => ?_) (fun _ => gi ⟨L, u, m, A, B, C, D, E, ro', adds, cells, ats, deeds, cellz, rfl, hm, hU, hs, I, R, hn⟩)
    obtain ⟨y0, y1, rfl⟩ : ∃ y0 y1, ys = [y0, y1] := len_two (by omega)
    obtain ⟨b, z0, hb, hz0, _⟩ := (rd (own := []) hm).at (i := 0) (by omega) (by omega)
    have rd0 : ∀ {own ro2}, (∀ a v, ro a = some v → ro2 a = some v) → H.rd ⟨own, ro2⟩ (Addr.add (Addr.add b (((0 : Int)).toNat * 1)) 0) (Value.int .i64 y0) := fun {own ro2} h => by
      obtain ⟨b', x, hb', hx, hrd⟩ := (rd (own := own) h).at (i := 0) (by omega) (by omega)
      rw [hb] at hb'; cases hb'
      simp only [Int.toNat_zero, List.getElem?_cons_zero, Option.some.injEq] at hx
      rw [hx]; exact hrd
    have rd1 : ∀ {own ro2}, (∀ a v, ro a = some v → ro2 a = some v) → H.rd ⟨own, ro2⟩ (Addr.add (Addr.add b (((1 : Int)).toNat * 1)) 0) (Value.int .i64 y1) := fun {own ro2} h => by
      obtain ⟨b', x, hb', hx, hrd⟩ := (rd (own := own) h).at (i := 1) (by omega) (by omega)
      rw [hb] at hb'; cases hb'
      have hx : y1 = x := by simpa using hx
      rw [hx]; exact hrd
    obtain ⟨w1, w2, w3, w4, w5, w6, w7, w8⟩ := want I R
    obtain ⟨b1, b2, b3⟩ := up_begin (p := y0) (add := y1) I R
    refine ⟨fun e h => e = refUBegin adds ats y0 y1 ∧ ∃ A B C D E ro2, (∀ a v, ro' a = some v → ro2 a = some v) ∧ (if refUBegin adds ats y0 y1 = 0 then UvR ro2 A B C D E (adds ++ [y1]) cells (ats.set y0.toNat 1) (deeds.set y0.toNat adds.length) (cellz.set y0.toNat 0) else UvR ro2 A B C D E adds cells ats deeds cellz) ∧ h = ⟨L ++ [uvE r20 A B C D E], ro2⟩,
      ⟨b, hb, by omega, by omega, b, hb, by omega, by omega, ?_⟩, ?_⟩
    · repeat' first
        | exact ref_ubegin_c hU w1 w2 w3 w4 (fun A' B' C' D' E' ro2 q hU2 => ⟨A', B', C', D', E', _, rfl, uv_put (r := r20) (a0 := A') (a1 := B') (a2 := C') (a3 := D') (a4 := E') (z0 := A) (z1 := B) (z2 := C) (z3 := D) (z4 := E) L [] rfl (gi ⟨rfl, A', B', C', D', E', ro2, q, hU2, rfl⟩)⟩)
        | refine uv_get (a0 := A) (a1 := B) (a2 := C) (a3 := D) (a4 := E) (by simp) ?_
        | refine ⟨y0, rd0 hm, ?_⟩
        | refine ⟨y1, rd1 hm, ?_⟩
        | refine ⟨?_, ?_⟩
    rintro _ e _ ⟨rfl, A', B', C', D', E', ro2, q, hU2, rfl⟩
    have hm2 : ∀ a v, ro a = some v → ro2 a = some v := fun a v h => q a v (hm a v h)
    have call : ∀ {K : Value → H → Prop}, (∀ L', UnivAt p (univBegin u y0 y1).1 L' → K (errV (eno 79 (univBegin u y0 y1).2)) ⟨[] ++ (L' ++ [uvE r20 A' B' C' D' E']), ro2⟩) → SemCall Tryd.prog 21 (List.toArray [.pointer (some (Addr.mk p 0 none)), .int .i64 y0, .int .i64 y1]) ⟨L ++ [uvE r20 A' B' C' D' E'], ro2⟩ K := fun hK => univ_begin_c [] _ rfl hs I.ok hK
    have tail : ∀ {K : Value → H → Prop}, (∀ h, UpSt p r20 N ro h → K (.bool true) h) → ∀ L', UnivAt p (univBegin u y0 y1).1 L' → SemCall Tryd.prog 7 (List.toArray [errV (eno 79 (univBegin u y0 y1).2), .int .i64 (refUBegin adds ats y0 y1)]) ⟨[] ++ (L' ++ [uvE r20 A' B' C' D' E']), ro2⟩ K := by
      intro K hK L' hs'
      refine same_error_c (hG.up hm2) ?_
      rw [decide_eq_true b1.symm]
      have hn2 : (univBegin u y0 y1).1.hands.length = N := by
        unfold univBegin
        split
        · exact hn
        · split
          · exact hn
          · split
            · exact hn
            · split
              · exact hn
              · simpa using hn
      by_cases hz : refUBegin adds ats y0 y1 = 0
      · rw [if_pos hz] at b3 hU2
        exact hK _ ⟨L', _, m, A', B', C', D', E', ro2, _, _, _, _, _, rfl, hm2, hU2, hs', b2, b3, hn2⟩
      · rw [if_neg hz] at b3 hU2
        exact hK _ ⟨L', _, m, A', B', C', D', E', ro2, _, _, _, _, _, rfl, hm2, hU2, hs', b2, b3, hn2⟩
    refine ⟨b, hb, by omega, by omega, b, hb, by omega, by omega, ⟨y0, rd0 hm2, y1, rd1 hm2, ?_⟩, ⟨y1, rd1 hm2, y0, rd0 hm2, ?_⟩⟩
    all_goals
      refine call (fun L' hs' => ⟨_, rfl, tail (fun h hS => ⟨_, rfl, ?_⟩) L' hs'⟩)
      exact VIf_nb (nomatch ·) (fun _ => gi hS)
  rintro _ _ ⟨L, u, m, A, B, C, D, E, ro', adds, cells, ats, deeds, cellz, rfl, hm, hU, hs, I, R, hn⟩
  obtain ⟨w1, w2, w3, w4, w5, w6, w7, w8⟩ := want I R
  refine ⟨fun h => UpSt p r20 N ro h, ?_, ?_⟩
  · refine VIf_eq (fun hl => ?_) (fun _ => gi ⟨L, u, m, A, B, C, D, E, ro', adds, cells, ats, deeds, cellz, rfl, hm, hU, hs, I, R, hn⟩)
    obtain ⟨y0, rfl⟩ : ∃ y0, ys = [y0] := List.length_eq_one_iff.1 (by omega)
    obtain ⟨b, z0, hb, hz0, _⟩ := (rd (own := []) hm).at (i := 0) (by omega) (by omega)
    have rd0 : ∀ {own ro2}, (∀ a v, ro a = some v → ro2 a = some v) → H.rd ⟨own, ro2⟩ (Addr.add (Addr.add b (((0 : Int)).toNat * 1)) 0) (Value.int .i64 y0) := fun {own ro2} h => by
      obtain ⟨b', x, hb', hx, hrd⟩ := (rd (own := own) h).at (i := 0) (by omega) (by omega)
      rw [hb] at hb'; cases hb'
      simp only [Int.toNat_zero, List.getElem?_cons_zero, Option.some.injEq] at hx
      rw [hx]; exact hrd
    obtain ⟨m', s1, s2, s3⟩ := up_step (p := y0) I R
    have hw8 := w8 y0
    refine ⟨fun y d g e h => ∃ r A' B' C' D' E' ro2, y = Addr.mk r 0 none ∧ d = (refUStep adds cells ats deeds cellz y0).2.1 ∧ g = (refUStep adds cells ats deeds cellz y0).2.2.1 ∧ e = (refUStep adds cells ats deeds cellz y0).2.2.2 ∧ (∀ a v, ro' a = some v → ro2 a = some v) ∧ UvR ro2 A' B' C' D' E' adds (refUStep adds cells ats deeds cellz y0).1.1 (refUStep adds cells ats deeds cellz y0).1.2.1 deeds (refUStep adds cells ats deeds cellz y0).1.2.2 ∧
      h = ⟨L ++ [uvE r20 A B C D E] ++ [uvE r A' B' C' D' E'], ro2⟩, ⟨b, hb, by omega, by omega, ?_⟩, ?_⟩
    · repeat' first
        | exact ref_ustep_c hU w1 w2 w3 w5 w6 w7 hw8 (fun A' B' C' D' E' ro2 q hU2 => ⟨A', B', C', D', E', _, _, _, rfl, fun r _ => uv_put (r := r) (a0 := A') (a1 := B') (a2 := C') (a3 := D') (a4 := E') (z0 := ⟨none, 0, 0⟩) (z1 := ⟨none, 0, 0⟩) (z2 := ⟨none, 0, 0⟩) (z3 := ⟨none, 0, 0⟩) (z4 := ⟨none, 0, 0⟩) (L ++ [uvE r20 A B C D E]) [] rfl (gi ⟨r, A', B', C', D', E', ro2, rfl, rfl, rfl, rfl, q, hU2, rfl⟩)⟩)
        | exact ref_ustep_c hU w1 w2 w3 w5 w6 w7 hw8 (fun A' B' C' D' E' ro2 q hU2 => ⟨A', B', C', D', E', _, _, _, rfl, uv_put (r := rn) (a0 := A') (a1 := B') (a2 := C') (a3 := D') (a4 := E') (z0 := ⟨none, 0, 0⟩) (z1 := ⟨none, 0, 0⟩) (z2 := ⟨none, 0, 0⟩) (z3 := ⟨none, 0, 0⟩) (z4 := ⟨none, 0, 0⟩) (L ++ [uvE r20 A B C D E]) [] rfl (gi ⟨rn, A', B', C', D', E', ro2, rfl, rfl, rfl, rfl, q, hU2, rfl⟩)⟩)
        | refine uv_get (a0 := A) (a1 := B) (a2 := C) (a3 := D) (a4 := E) (by simp) ?_
        | refine ⟨y0, rd0 hm, ?_⟩
        | refine ⟨?_, ?_⟩
        | intro rn _
    rintro _ y d g e _ ⟨r, A', B', C', D', E', ro2, rfl, rfl, rfl, rfl, q, hU2, rfl⟩
    have hm2 : ∀ a v, ro a = some v → ro2 a = some v := fun a v h => q a v (hm a v h)
    refine uv_get (r := r) (a0 := A') (a1 := B') (a2 := C') (a3 := D') (a4 := E') (by simp) ?_
    refine uv_put (r := r20) (a0 := A') (a1 := B') (a2 := C') (a3 := D') (a4 := E') (z0 := A) (z1 := B) (z2 := C) (z3 := D) (z4 := E) L [uvE r A' B' C' D' E'] (by simp) ?_
    refine ⟨b, hb, by omega, by omega, y0, rd0 hm2, ?_⟩
    refine univ_step_c [] _ rfl hs I.ok (fun L1 hs1 => ⟨_, _, _, rfl, ?_⟩)
    have hn2 : (univStep u y0).1.hands.length = N := by
      have h1 := s3.t
      have h2 : (refUStep adds cells ats deeds cellz y0).1.2.1.length = ats.length := by
        unfold refUStep
        split
        · rfl
        · split
          · rfl
          · split
            · simp
            · split <;> simp
      have h3 := R.t
      rw [h1, h3, List.length_map, List.length_map] at h2
      omega
    have hS : UpSt p r20 N ro ⟨[] ++ (L1 ++ [uvE r20 A' B' C' D' E']), ro2⟩ := ⟨L1, _, m', A', B', C', D', E', ro2, _, _, _, _, _, rfl, hm2, hU2, hs1, s1, s3, hn2⟩
    refine ⟨fun b h => b = false ∧ UpSt p r20 N ro h, same_error_c (hG.up hm2) ⟨_, rfl, VIf_nb (fun h => absurd (by rw [s2]) (of_decide_eq_false h)) (fun _ => ?_)⟩, ?_⟩
    · refine VIf_nb (fun h => absurd (show (univStep u y0).2.1 = (refUStep adds cells ats deeds cellz y0).2.1 by rw [s2]) (by simpa using h)) (fun _ => ⟨_, ?_, ?_, hS⟩)
      · exact Gh.drop (by simp)
      · rw [s2]; simp
    rintro _ b h ⟨rfl, hS⟩
    exact VIf_b (nomatch ·) (fun _ => gi hS)
  rintro _ _ ⟨L, u, m, A, B, C, D, E, ro', adds, cells, ats, deeds, cellz, rfl, hm, hU, hs, I, R, hn⟩
  have hS : UpSt p r20 N ro ⟨L ++ [uvE r20 A B C D E], ro'⟩ := ⟨L, u, m, A, B, C, D, E, ro', adds, cells, ats, deeds, cellz, rfl, hm, hU, hs, I, R, hn⟩
  have lt : C.len = N := by have := hU.c.len; rw [ints_length, R.t, List.length_map] at this; omega
  refine ⟨fun h => UpSt p r20 N ro h, ⟨fun k q h => h = ⟨L ++ [uvE r20 A B C D E], ro'⟩ ∧ 0 ≤ q ∧ q ≤ N ∧ k = (N - q).toNat, ⟨_, gi ⟨rfl, by omega, by omega, rfl⟩⟩, ?_⟩, fun _ h hS => gi hS⟩
  rintro k _ q _ ⟨rfl, q0, q1, rfl⟩
  refine VIf_dec (fun hq => ?_) (fun _ => gi hS)
  have hne : ∀ x, ats[q.toNat]? = some x → ((if 0 ≤ q ∧ q ≤ (u.hands.length : Int) - 1 then ((u.hands[q.toNat]?).map UHand.ln).getD 0 else 0) != x) = false := fun x hx => by
    rw [if_pos (by omega), at_le R.t hx]; simp
  refine ⟨fun b h => b = false ∧ h = ⟨L ++ [uvE r20 A B C D E], ro'⟩, ⟨?_, ?_⟩, ?_⟩
  · refine univ_at_c hs (fun _ h => by simp [h]) I.n ⟨_, rfl, rS0 (uvE r20 A B C D E) (by simp) rfl rfl ?_⟩
    exact RdSl.idx (h := ⟨L ++ [uvE r20 A B C D E], ro'⟩) hU.c.ro q0 (by omega) (fun x hx => gi ⟨hne x hx, rfl⟩)
  · refine rS0 (uvE r20 A B C D E) (by simp) rfl rfl ?_
    obtain ⟨bb, x, hbb, hx, hrd⟩ := RdSl.at (h := ⟨L ++ [uvE r20 A B C D E], ro'⟩) hU.c.ro q0 (i := q) (by omega)
    refine ⟨bb, hbb, q0, by omega, ?_, ?_⟩
    · exact univ_at_c hs (fun _ h => by simp [h]) I.n ⟨_, rfl, x, hrd, gi ⟨hne x hx, rfl⟩⟩
    · exact ⟨x, hrd, univ_at_c hs (fun _ h => by simp [h]) I.n ⟨_, rfl, gi ⟨hne x hx, rfl⟩⟩⟩
  rintro _ b _ ⟨rfl, rfl⟩
  exact VIf_b (nomatch ·) (fun _ => ⟨⟨by omega, by omega⟩, _, by omega, gi ⟨rfl, by omega, by omega, rfl⟩⟩)
end Go.Proofs.YtnecppjgcbhnaaaDoor
