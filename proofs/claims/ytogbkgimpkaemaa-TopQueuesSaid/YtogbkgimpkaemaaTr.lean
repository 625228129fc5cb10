import Derived.Test.YtogbkgimpkaemaaTq
import Derived.Test.YtogbkgimpkaemaaT2
import Derived.Test.YtogbkgimpkaemaaEngL
import Derived.Test.YtogbkgimpkaemaaEngJ
namespace Go.Proofs.Ytogbkgimpkaemaa
open Go.Eng
set_option maxRecDepth 20000
/-! ### TopQueues, walked -/
theorem fFree0 {h : Nat → Int} (h0 : h (0 * 5 + 0) = 0) : fFree 1 h 0 = 0 := by
  unfold fFree
  rw [if_neg (by decide), if_neg]
  exact fun hh => hh h0
theorem fPut_ok {f h : Nat → Int} {v : Int} (h0 : h (0 * 5 + 0) = 0) (hv : 0 ≤ v ∧ v ≤ 1000) (hm : f 82 ≠ 40) : fPut 1 f h 0 v = (updN (updN f (42 + (f 82).toNat) v) 82 (f 82 + 1), fHand h 0 [1, f 82, 0, 0, 0], 0) := by
  rcases fPut_cases 1 f h 0 v hv with ⟨_, _, e⟩ | ⟨e, _⟩
  · unfold fPut at e
    rw [if_neg (not_not_intro hv), if_neg (not_not_intro (fFree0 h0)), if_neg hm] at e
    exact absurd rfl e
  · exact e
theorem fGet_ok {h : Nat → Int} (h0 : h (0 * 5 + 0) = 0) : fGet 1 h 0 = (fHand h 0 [6, 0, 0, 0, 0], 0) := by
  unfold fGet
  rw [if_neg (not_not_intro (fFree0 h0))]
  rfl
theorem rPut_ok {r : Ring} {Q : List Int} (h : RQ r Q) (ho : r.oa = 0) (ht : r.tail ≤ 1000) (v : Int) (k : Nat) : (rPut r v k).Ok := by
  obtain ⟨l, ⟨d, d1, d2, d3⟩, q8⟩ := h
  match k with
  | 0 | 1 => exact ⟨by show 0 < r.places.length; omega, by show r.places.length ≤ 8; omega, by show 0 ≤ r.head; omega, by show r.head ≤ r.tail; omega, by show r.tail ≤ 1000000; omega, by simp [rPut], by simp [rPut], .inl ho⟩
  | 2 => exact ⟨by simp [rPut]; omega, by simp [rPut]; omega, by show 0 ≤ r.head; omega, by show r.head ≤ r.tail; omega, by show r.tail ≤ 1000000; omega, by simp [rPut], by simp [rPut], .inl ho⟩
  | k + 3 => exact ⟨by simp [rPut]; omega, by simp [rPut]; omega, by show 0 ≤ r.head; omega, by show r.head ≤ r.tail + 1; omega, by show r.tail + 1 ≤ 1000000; omega, by simp [rPut], by simp [rPut], .inl ho⟩
theorem rPut_step {r : Ring} {Q : List Int} (h : RQ r Q) (h8 : Q.length < 8) {v : Int} {k : Nat} (hk : k < 3) : ringStepPut (rPut r v k) = (rPut r v (k + 1), decide (k = 2), decide (k = 2), 0) := by
  obtain ⟨l, ⟨d, d1, d2, d3⟩, q8⟩ := h
  have hk : k = 0 ∨ k = 1 ∨ k = 2 := by omega
  rcases hk with rfl | rfl | rfl
  · have hn : ¬ r.tail - r.head = r.places.length := by omega
    simp [ringStepPut, rPut, hn]
  · simp [ringStepPut, rPut]
  · simp [ringStepPut, rPut]
theorem rGet_ok {r : Ring} {Q : List Int} (h : RQ r Q) (hi : r.ia = 0) (ht : r.tail ≤ 1000) (v : Int) {k : Nat} (hk : k < 3) : (rGet r v k).Ok := by
  obtain ⟨l, ⟨d, d1, d2, d3⟩, q8⟩ := h
  match k with
  | 0 | 1 | 2 => exact ⟨by show 0 < r.places.length; omega, by show r.places.length ≤ 8; omega, by show 0 ≤ r.head; omega, by show r.head ≤ r.tail; omega, by show r.tail ≤ 1000000; omega, by show 0 ≤ r.ia; omega, by show r.ia ≤ 3; omega, .inr (by simp [rGet])⟩
theorem rGet_step {r : Ring} {Q : List Int} {v : Int} (h : RQ r (v :: Q)) {k : Nat} (hk : k < 3) : ringStepGet (rGet r v k) = (rGet r v (k + 1), decide (k = 2), if k = 2 then v else 0, 0) := by
  have ht := h.top
  obtain ⟨l, ⟨d, d1, d2, d3⟩, q8⟩ := h
  have hk : k = 0 ∨ k = 1 ∨ k = 2 := by omega
  simp only [List.length_cons] at d2
  rcases hk with rfl | rfl | rfl
  · have hn : ¬ r.tail = r.head := by omega
    simp [ringStepGet, rGet, hn]
  · simp [ringStepGet, rGet, ht]
  · simp [ringStepGet, rGet]
theorem rGet_none {r : Ring} (h : RQ r []) {v : Int} : ringStepGet (rGet r v 0) = ({ r with oa := 0, ov := 0 }, true, -1, 0) := by
  obtain ⟨l, ⟨d, d1, d2, d3⟩, q8⟩ := h
  have hn : r.tail = r.head := by rw [d2, d1]; simp
  simp [ringStepGet, rGet, hn]
def TQ (p pr : Nat) (ro : Addr → Option Value) (many puts i : Int) (h : H) : Prop :=
  ∃ L1 L2 f hh ch hi ti r Q, h = ⟨L1 ++ L2, ro⟩ ∧ FqAt p 1 f hh L1 ∧ RingAt pr r L2 ∧ FInv 1 f hh ch hi ti ∧ FLag f ∧ hh (0 * 5 + 0) = 0 ∧ fQ f ch hi = Q ∧ f 82 = puts + 1 ∧ RQ r Q ∧ r.ia = 0 ∧ r.oa = 0 ∧ many = Q.length ∧ (∀ y ∈ Q, 0 ≤ y) ∧ r.tail ≤ i
set_option maxHeartbeats 1600000 in
theorem topQueues_c {st : SV} {ks : List Int} {ro : Addr → Option Value} {post : Value → H → Prop} (hr : RdSl ⟨[], ro⟩ st (ints ks)) (hpost : ∀ h, post (.bool true) h) :
    SemCall Try.prog 3 (List.toArray [.slice st.a st.len st.cap]) ⟨[], ro⟩ post := by
  refine f3_call _ _ post ?_
  refine fq_new_c (fun h => absurd (by omega) h) (fun p L hs _ _ => ⟨_, none, rfl, ?_⟩)
  refine ring_new_c (fun h => absurd (by omega) h) (fun pr L2 hs2 _ _ => ⟨_, none, rfl, ?_⟩)
  refine join_b (h := ⟨[] ++ L ++ L2, ro⟩) false (VIf_nnil ⟨rfl, gi ⟨rfl, rfl⟩⟩) (VIf_b (nomatch ·) (fun _ => ?_))
  have hlen := hr.len
  rw [ints_length] at hlen
  have hr : ∀ {X}, RdSl ⟨X, ro⟩ st (ints ks) := fun {X} => hr.mono (by simp) (fun _ _ h => h)
  refine ⟨fun _ => True, ⟨fun n many puts i h => ∃ k : Nat, i = (k : Int) ∧ k ≤ 60 ∧ n = 60 - k ∧ 0 ≤ puts ∧ puts ≤ 39 ∧ TQ p pr ro many puts k h, ⟨_, gi ⟨0, rfl, by omega, rfl, by omega, by omega, L, L2, _, _, _, _, _, _, [], rfl, hs, hs2, FInv.start 1, .inl (by decide), rfl, rfl, rfl, ⟨by simp, ⟨0, rfl, rfl, fun j hj => absurd hj (by simp)⟩, by simp⟩, rfl, rfl, rfl, by simp, by simp⟩⟩, ?_⟩, fun _ _ _ => ret (hpost _)⟩
  clear hs hs2
  rintro n _ many puts i _ ⟨k, rfl, hk, rfl, p0, p39, L1, L2, f, hh, ch, hi, ti, r, Q, rfl, hs, hs2, I, lg, h0, hQ, f82, hR, ia, oa, hmany, hpos, htl⟩
  refine join_b (h := ⟨L1 ++ L2, ro⟩) (decide ((k : Int) < ((st.len : Nat) : Int) ∧ (k : Int) < 60)) (VIf_dec (fun h1 => gi ⟨rfl, ?_⟩) (fun h1 => gi ⟨rfl, (decide_eq_false (fun h => h1 h.1)).symm⟩)) ?_
  · exact decide_eq_decide.2 ⟨fun h => ⟨h1, h⟩, fun h => h.2⟩
  refine VIf_dec (fun hc => ?_) (fun _ => gi trivial)
  obtain ⟨hc1, hc2⟩ := hc
  have q8 := hR.q8
  have idx : ∀ {X : List Ent} {K : Int → Prop}, K (gI ks k) → ∃ b : Addr, st.a = some b ∧ 0 ≤ (k : Int) ∧ (k : Int) < ((st.len : Nat) : Int) ∧ ∃ x : Int, H.rd ⟨X, ro⟩ (Addr.add (Addr.add b ((k : Int).toNat * 1)) 0) (Value.int .i64 x) ∧ K x := fun {X K} hK => idxI hr (by omega) (by omega) (by rw [Int.toNat_natCast]; exact hK)
  refine ⟨fun many puts h => 0 ≤ puts ∧ puts ≤ 39 ∧ TQ p pr ro many puts ((k : Int) + 1) h, idx ?_, fun _ many puts h hU => ⟨⟨by omega, by omega⟩, 60 - (k + 1), by omega, gi ⟨k + 1, by omega, by omega, rfl, hU.1, hU.2.1, by have := hU.2.2; rwa [show ((k + 1 : Nat) : Int) = (k : Int) + 1 by omega]⟩⟩⟩
  refine VIf_dec (fun hv0 => ?_) (fun hneg => ?_)
  · -- put
    refine join_b (h := ⟨L1 ++ L2, ro⟩) (decide (many = 8 ∨ puts = 39 ∨ gI ks k > 1000)) (VIf_eq (fun h1 => gi ⟨rfl, (decide_eq_true (.inl h1)).symm⟩) (fun h1 => VIf_eq (fun h2 => gi ⟨rfl, (decide_eq_true (.inr (.inl h2))).symm⟩) (fun h2 => idx (gi ⟨rfl, decide_eq_decide.2 ⟨fun h => .inr (.inr h), fun h => (h.resolve_left h1).resolve_left h2⟩⟩)))) ?_
    refine VIf_dec (fun _ => gi ⟨p0, p39, L1, L2, f, hh, ch, hi, ti, r, Q, rfl, hs, hs2, I, lg, h0, hQ, f82, hR, ia, oa, hmany, hpos, by omega⟩) (fun hc => ?_)
    obtain ⟨v, hv⟩ : ∃ v, v = gI ks k := ⟨_, rfl⟩
    have hn8 : many ≠ 8 := fun h => hc (.inl h)
    have hn39 : puts ≠ 39 := fun h => hc (.inr (.inl h))
    have hv1 : v ≤ 1000 := by have : ¬ gI ks k > 1000 := fun h => hc (.inr (.inr h)); omega
    have q7 : Q.length < 8 := by omega
    have eF := fPut_ok (f := f) (v := v) h0 ⟨by omega, by omega⟩ (by omega)
    have eR : ringPut r v = (rPut r v 0, 0) := by unfold ringPut; rw [if_neg (not_not_intro ⟨by omega, by omega⟩), if_neg (not_not_intro ia)]; rfl
    obtain ⟨F', hF⟩ : ∃ F', F' = updN (updN f (42 + (f 82).toNat) v) 82 (f 82 + 1) := ⟨_, rfl⟩
    obtain ⟨H', hH⟩ : ∃ H', H' = fHand hh 0 [1, f 82, 0, 0, 0] := ⟨_, rfl⟩
    have I' : FInv 1 F' H' ch hi ti := by rw [hF, hH]; exact I.put v (by omega)
    have B := I.b
    have hQ' : fQ F' ch hi = Q := by
      rw [← hQ]
      refine fQ_eq fun y hy => ?_
      have := B.lt y hy
      rw [hF, updN_ne (by omega), updN_ne (by omega)]
    have lg' : FLag F' := by
      obtain ⟨tt, tt1, tt2⟩ := B.tl
      have := B.x40 tt1
      have ett : (f 1).toNat = tt := by omega
      have hn40 : (f (2 + tt)).toNat < 40 := by
        rcases B.next tt1 with ⟨_, hx⟩ | ⟨y, hy, hx⟩
        · rw [hx]; decide
        · have := B.x40 hy; omega
      have e : ∀ j, j < 42 → F' j = f j := fun j hj => by rw [hF, updN_ne (by omega), updN_ne (by omega)]
      unfold FLag at lg ⊢
      rw [e 1 (by omega), ett, e _ (by omega), e _ (by omega)]
      rw [ett] at lg
      exact lg
    have F82 : F' 82 = puts + 2 := by rw [hF, updN_same]; omega
    have H1 : H' (0 * 5 + 0) = 1 := by rw [hH, fHand_same (by omega)]; rfl
    have hp : PutSt Q v F' H' ch hi := .inl ⟨by omega, by omega, hQ', by
      rw [hH, fHand_same (by omega), show gI [1, f 82, 0, 0, 0] 1 = f 82 from rfl, hF, updN_ne (by omega), updN_same]⟩
    refine ⟨fun b h => b = false ∧ ∃ L1 L2, h = ⟨L1 ++ L2, ro⟩ ∧ FqAt p 1 F' H' L1 ∧ RingAt pr (rPut r v 0) L2, idx ?_, ?_⟩
    · rw [← hv]
      refine fq_put_c (q := 0) [] L2 rfl hs I.m (fun L1' hs' => ⟨_, rfl, ?_⟩)
      rw [eF] at hs' ⊢
      refine VIf_nerr (fun h => absurd rfl h) (fun _ => idx ?_)
      rw [← hv]
      refine ring_put_c L1' [] (by simp) hs2 (fun L2' h2 => ⟨_, rfl, isIfaceV_errV _, ?_⟩)
      rw [eR] at h2 ⊢
      exact gi ⟨rfl, L1', L2', by simp, by rw [hF, hH]; exact hs', h2⟩
    clear hs hs2
    rintro _ _ _ ⟨rfl, L1, L2, rfl, hs, hs2⟩
    refine VIf_b (nomatch ·) (fun _ => ?_)
    refine ⟨fun d h => d = true ∧ ∃ L1 f hh ch hi ti, h = ⟨L1 ++ L2, ro⟩ ∧ FqAt p 1 f hh L1 ∧ FInv 1 f hh ch hi ti ∧ FLag f ∧ f 82 = puts + 2 ∧ hh (0 * 5 + 0) = 0 ∧ fQ f ch hi = Q ++ [v],
      ⟨fun n d x h => ∃ K : Nat, x = (K : Int) ∧ K ≤ 8 ∧ n = 8 - K ∧ ∃ L1 f hh ch hi ti, h = ⟨L1 ++ L2, ro⟩ ∧ FqAt p 1 f hh L1 ∧ FInv 1 f hh ch hi ti ∧ FLag f ∧ f 82 = puts + 2 ∧ ((d = false ∧ PutSt Q v f hh ch hi ∧ fV 1 f hh 0 + K ≤ 8) ∨ (d = true ∧ hh (0 * 5 + 0) = 0 ∧ fQ f ch hi = Q ++ [v])),
        ⟨_, gi ⟨0, rfl, by omega, rfl, L1, F', H', ch, hi, ti, rfl, hs, I', lg', F82, .inl ⟨rfl, hp, by have := fV1 (f := F') (h := H') (.inl H1); omega⟩⟩⟩, ?_⟩, ?_⟩
    · clear hs I' lg' F82 hp hQ' hF hH H1 eF I lg h0 hQ f82 B
      rintro n _ d x _ ⟨K, rfl, hK, rfl, L1, f, hh, ch, hi, ti, rfl, hs, I, lg, f82, hst⟩
      rcases hst with ⟨rfl, hp, hV⟩ | ⟨rfl, h0, hq⟩
      · have ha : hh (0 * 5 + 0) ≠ 0 := by rcases hp with ⟨p1, _⟩ | ⟨p1, _⟩ <;> omega
        have hV1 : fV 1 f hh 0 ≠ 0 := fun hz => ha (fV_pos hz)
        refine join_b (h := ⟨L1 ++ L2, ro⟩) true (VIf_dec (fun _ => gi ⟨rfl, rfl⟩) (fun h => absurd (by omega) h)) (VIf_b (fun _ => ?_) (nomatch ·))
        refine fq_step_c (q := 0) [] L2 rfl hs (by omega) (I.ok (by omega)) (fun L1' h1 => ?_)
        unfold fStepE at h1 ⊢
        rw [if_neg ha] at h1 ⊢
        obtain ⟨ch', hi', ti', I', lg', v', e82, sp, _⟩ := fone I lg ha
        refine ⟨_, _, none, rfl, VIf_nnil ⟨⟨by omega, by omega⟩, 8 - (K + 1), by omega, gi ⟨K + 1, by omega, by omega, rfl, L1', _, _, ch', hi', ti', rfl, h1, I', lg', by rw [e82]; exact f82, ?_⟩⟩⟩
        rcases sp Q v hp with ⟨d1, d2⟩ | ⟨d1, d2, d3⟩
        · exact .inl ⟨d1, d2, by dsimp only; omega⟩
        · exact .inr ⟨d1, d2, d3⟩
      · exact join_b (h := ⟨L1 ++ L2, ro⟩) false (VIf_dec (fun _ => gi ⟨rfl, rfl⟩) (fun _ => gi ⟨rfl, rfl⟩)) (VIf_b (nomatch ·) (fun _ => gi ⟨rfl, L1, f, hh, ch, hi, ti, rfl, hs, I, lg, f82, h0, hq⟩))
    clear hs I' lg' F82 hp hQ' hF hH H1 eF I lg h0 hQ f82 B
    rintro _ _ _ ⟨rfl, L1, f, hh, ch, hi, ti, rfl, hs, I, lg, f82, h0, hq⟩
    refine ⟨fun d h => d = true ∧ ∃ L2, h = ⟨L1 ++ L2, ro⟩ ∧ RingAt pr (rPut r v 3) L2,
      ⟨fun n d x h => ∃ K : Nat, x = (K : Int) ∧ K ≤ 3 ∧ n = 4 - K ∧ d = decide (K = 3) ∧ ∃ L2, h = ⟨L1 ++ L2, ro⟩ ∧ RingAt pr (rPut r v K) L2, ⟨_, gi ⟨0, rfl, by omega, rfl, rfl, L2, rfl, hs2⟩⟩, ?_⟩, ?_⟩
    · clear hs2
      rintro n _ d x _ ⟨K, rfl, hK, rfl, rfl, L2, rfl, hs2⟩
      by_cases hK3 : K = 3
      · subst hK3
        exact join_b (h := ⟨L1 ++ L2, ro⟩) false (VIf_dec (fun _ => gi ⟨rfl, rfl⟩) (fun _ => gi ⟨rfl, rfl⟩)) (VIf_b (nomatch ·) (fun _ => gi ⟨rfl, L2, rfl, hs2⟩))
      · refine join_b (h := ⟨L1 ++ L2, ro⟩) true (VIf_dec (fun _ => gi ⟨rfl, by simp [hK3]⟩) (fun h => absurd (by omega) h)) (VIf_b (fun _ => ?_) (nomatch ·))
        refine ring_stepput_c L1 [] (by simp) hs2 (rPut_ok hR oa (by omega) v K) (fun L2' h2 => ?_)
        rw [rPut_step hR q7 (by omega)] at h2 ⊢
        refine ⟨_, _, none, rfl, VIf_nnil ?_⟩
        refine join_b (h := ⟨L1 ++ (L2' ++ []), ro⟩) (decide (K = 2)) (VIf_dec (fun h => gi ⟨rfl, rfl⟩) (fun h => gi ⟨rfl, (decide_eq_false h).symm⟩)) ⟨⟨by omega, by omega⟩, 4 - (K + 1), by omega, gi ⟨K + 1, by omega, by omega, rfl, by simp, L2', by simp, h2⟩⟩
    clear hs2
    rintro _ _ _ ⟨rfl, L2, rfl, hs2⟩
    refine join_b (h := ⟨L1 ++ L2, ro⟩) false (VIf_b (nomatch ·) (fun _ => gi ⟨rfl, rfl⟩)) (VIf_b (nomatch ·) (fun _ => ⟨⟨by omega, by omega⟩, ⟨by omega, by omega⟩, gi ⟨by omega, by omega, L1, L2, f, hh, ch, hi, ti, _, Q ++ [v], rfl, hs, hs2, I, lg, h0, hq, by omega, hR.put q7 (by omega), rfl, oa, by simp; omega, fun y hy => ?_, ?_⟩⟩))
    · rcases List.mem_append.1 hy with hy | hy
      · exact hpos y hy
      · simp only [List.mem_singleton] at hy; omega
    · show r.tail + 1 ≤ _; omega
  · -- get
    have eG := fGet_ok h0
    obtain ⟨H', hH⟩ : ∃ H', H' = fHand hh 0 [6, 0, 0, 0, 0] := ⟨_, rfl⟩
    obtain ⟨w, hw⟩ : ∃ w, w = (Q[0]?).getD 0 := ⟨_, rfl⟩
    have eR : ringGet r = (rGet r w 0, 0) := by unfold ringGet; rw [if_neg (not_not_intro oa)]; rfl
    have I' : FInv 1 f H' ch hi ti := by rw [hH]; exact I.get
    have H6 : H' (0 * 5 + 0) = 6 := by rw [hH, fHand_same (by omega)]; rfl
    refine ⟨fun b h => b = false ∧ ∃ L1 L2, h = ⟨L1 ++ L2, ro⟩ ∧ FqAt p 1 f H' L1 ∧ RingAt pr (rGet r w 0) L2, ?_, ?_⟩
    · refine fq_get_c (q := 0) [] L2 rfl hs (fun L1' hs' => ⟨_, rfl, ?_⟩)
      rw [eG] at hs' ⊢
      refine VIf_nerr (fun h => absurd rfl h) (fun _ => ?_)
      refine ring_get_c L1' [] (by simp) hs2 (fun L2' h2 => ⟨_, rfl, isIfaceV_errV _, ?_⟩)
      rw [eR] at h2 ⊢
      exact gi ⟨rfl, L1', L2', by simp, by rw [hH]; exact hs', h2⟩
    clear hs hs2
    rintro _ _ _ ⟨rfl, L1, L2, rfl, hs, hs2⟩
    refine VIf_b (nomatch ·) (fun _ => ?_)
    -- what the first one tells
    refine ⟨fun x h => ∃ L1 f hh ch hi ti, h = ⟨L1 ++ L2, ro⟩ ∧ FqAt p 1 f hh L1 ∧ FInv 1 f hh ch hi ti ∧ FLag f ∧ f 82 = puts + 1 ∧ hh (0 * 5 + 0) = 0 ∧ ((Q = [] ∧ x = -1 ∧ fQ f ch hi = []) ∨ Q = x :: fQ f ch hi),
      ⟨fun n y x h => ∃ K : Nat, x = (K : Int) ∧ K ≤ 8 ∧ n = 8 - K ∧ ∃ L1 f hh ch hi ti, h = ⟨L1 ++ L2, ro⟩ ∧ FqAt p 1 f hh L1 ∧ FInv 1 f hh ch hi ti ∧ FLag f ∧ f 82 = puts + 1 ∧ ((y = -2 ∧ GetSt Q f hh ch hi ∧ fV 1 f hh 0 + K ≤ 8) ∨ (y ≠ -2 ∧ hh (0 * 5 + 0) = 0 ∧ ((Q = [] ∧ y = -1 ∧ fQ f ch hi = []) ∨ Q = y :: fQ f ch hi))),
        ⟨_, gi ⟨0, rfl, by omega, rfl, L1, f, H', ch, hi, ti, rfl, hs, I', lg, f82, .inl ⟨rfl, ⟨by omega, hQ⟩, by have := fV1 (f := f) (h := H') (.inr H6); omega⟩⟩⟩, ?_⟩, ?_⟩
    · clear hs I' hH H6 eG I lg h0 hQ f82
      rintro n _ y x _ ⟨K, rfl, hK, rfl, L1, f, hh, ch, hi, ti, rfl, hs, I, lg, f82, hst⟩
      rcases hst with ⟨rfl, hg, hV⟩ | ⟨hy, h0, hq⟩
      · have ha : hh (0 * 5 + 0) ≠ 0 := by have := hg.1; omega
        have hV1 : fV 1 f hh 0 ≠ 0 := fun hz => ha (fV_pos hz)
        refine join_b (h := ⟨L1 ++ L2, ro⟩) true (VIf_dec (fun _ => gi ⟨rfl, rfl⟩) (fun h => absurd (by omega) h)) (VIf_b (fun _ => ?_) (nomatch ·))
        refine fq_step_c (q := 0) [] L2 rfl hs (by omega) (I.ok (by omega)) (fun L1' h1 => ?_)
        unfold fStepE at h1 ⊢
        rw [if_neg ha] at h1 ⊢
        obtain ⟨ch', hi', ti', I', lg', v', e82, _, sg⟩ := fone I lg ha
        refine ⟨_, _, none, rfl, VIf_nnil ?_⟩
        rcases sg Q hg with ⟨d1, d2⟩ | ⟨d1, d2, d3⟩
        · exact VIf_b (fun h => absurd (d1.symm.trans h) (by simp)) (fun _ => ⟨⟨by omega, by omega⟩, 8 - (K + 1), by omega, gi ⟨K + 1, by omega, by omega, rfl, L1', _, _, ch', hi', ti', rfl, h1, I', lg', by rw [e82]; exact f82, .inl ⟨rfl, d2, by dsimp only; omega⟩⟩⟩)
        · refine VIf_b (fun _ => ⟨⟨by omega, by omega⟩, 8 - (K + 1), by omega, gi ⟨K + 1, by omega, by omega, rfl, L1', _, _, ch', hi', ti', rfl, h1, I', lg', by rw [e82]; exact f82, .inr ⟨?_, d2, d3⟩⟩⟩) (fun h => absurd (d1.symm.trans h) (by simp))
          rcases d3 with ⟨_, d4, _⟩ | d3
          · dsimp only; omega
          · have := hpos _ (by rw [d3]; exact .head _)
            dsimp only; omega
      · refine join_b (h := ⟨L1 ++ L2, ro⟩) false (VIf_dec (fun _ => gi ⟨rfl, ?_⟩) (fun _ => gi ⟨rfl, rfl⟩)) (VIf_b (nomatch ·) (fun _ => gi ⟨L1, f, hh, ch, hi, ti, rfl, hs, I, lg, f82, h0, hq⟩))
        simpa using hy
    clear hs I' hH H6 eG I lg h0 hQ f82
    rintro _ x _ ⟨L1, f, hh, ch, hi, ti, rfl, hs, I, lg, f82, h0, hq⟩
    refine ⟨fun y h => y = x ∧ ∃ L2 r', h = ⟨L1 ++ L2, ro⟩ ∧ RingAt pr r' L2 ∧ RQ r' (fQ f ch hi) ∧ r'.ia = 0 ∧ r'.oa = 0 ∧ r'.tail = r.tail,
      ⟨fun n y z h => ∃ K : Nat, z = (K : Int) ∧ K ≤ 3 ∧ n = 4 - K ∧ ∃ L2 r', h = ⟨L1 ++ L2, ro⟩ ∧ RingAt pr r' L2 ∧ ((y = -2 ∧ K < 3 ∧ r' = rGet r w K ∧ (Q = [] → K = 0)) ∨ (y ≠ -2 ∧ y = x ∧ RQ r' (fQ f ch hi) ∧ r'.ia = 0 ∧ r'.oa = 0 ∧ r'.tail = r.tail)),
        ⟨_, gi ⟨0, rfl, by omega, rfl, L2, _, rfl, hs2, .inl ⟨rfl, by omega, rfl, fun _ => rfl⟩⟩⟩, ?_⟩, ?_⟩
    · clear hs2
      rintro n _ y z _ ⟨K, rfl, hK, rfl, L2, r', rfl, hs2, hst⟩
      rcases hst with ⟨rfl, hK3, rfl, hK0⟩ | ⟨hy, h1, h2, h3, h4, h5⟩
      · refine join_b (h := ⟨L1 ++ L2, ro⟩) true (VIf_dec (fun _ => gi ⟨rfl, rfl⟩) (fun h => absurd (by omega) h)) (VIf_b (fun _ => ?_) (nomatch ·))
        refine ring_stepget_c L1 [] (by simp) hs2 (rGet_ok hR ia (by omega) w hK3) (fun L2' h2 => ?_)
        rcases hq with ⟨rfl, rfl, hq⟩ | hq
        · obtain rfl := hK0 rfl
          rw [rGet_none hR] at h2 ⊢
          refine ⟨_, _, none, rfl, VIf_nnil (VIf_b (fun _ => ⟨⟨by omega, by omega⟩, 4 - (0 + 1), by omega, gi ⟨0 + 1, by omega, by omega, rfl, L2', _, by simp, h2, .inr ⟨show (-1 : Int) ≠ -2 by decide, rfl, ?_, ia, rfl, rfl⟩⟩⟩) (nomatch ·))⟩
          rw [hq]
          exact ⟨hR.l, hR.hd, hR.q8⟩
        · have hwx : w = x := by rw [hw, hq]; rfl
          subst hwx
          rw [hq] at hR
          rw [rGet_step hR hK3] at h2 ⊢
          refine ⟨_, _, none, rfl, VIf_nnil (VIf_dec (fun hk2 => ⟨⟨by omega, by omega⟩, 4 - (K + 1), by omega, gi ⟨K + 1, by omega, by omega, rfl, L2', _, by simp, h2, .inr ?_⟩⟩) (fun hk2 => ⟨⟨by omega, by omega⟩, 4 - (K + 1), by omega, gi ⟨K + 1, by omega, by omega, rfl, L2', _, by simp, h2, .inl ⟨rfl, by omega, rfl, fun h => by rw [hq] at h; cases h⟩⟩⟩))⟩
          subst hk2
          have hw0 := hpos w (by rw [hq]; exact .head _)
          rw [if_pos rfl]
          exact ⟨by dsimp only; omega, rfl, hR.get (k := 2 + 1) (w := w) (by omega), ia, rfl, rfl⟩
      · refine join_b (h := ⟨L1 ++ L2, ro⟩) false (VIf_dec (fun _ => gi ⟨rfl, ?_⟩) (fun _ => gi ⟨rfl, rfl⟩)) (VIf_b (nomatch ·) (fun _ => gi ⟨h1, L2, r', rfl, hs2, h2, h3, h4, h5⟩))
        simpa using hy
    clear hs2
    rintro _ y _ ⟨rfl, L2, r', rfl, hs2, hR', ia', oa', tl'⟩
    have hx2 : y ≠ -2 := by
      rcases hq with ⟨_, h, _⟩ | h
      · omega
      · have := hpos y (by rw [h]; exact .head _); omega
    refine join_b (h := ⟨L1 ++ L2, ro⟩) false (VIf_ne (fun h => absurd rfl h) (fun _ => VIf_eq (fun h => absurd h hx2) (fun _ => gi ⟨rfl, ?_⟩))) (VIf_b (nomatch ·) (fun _ => ?_))
    · rcases hq with ⟨h1, h2, _⟩ | h
      · rw [h2, hmany, h1]; rfl
      · have := hpos y (by rw [h]; exact .head _)
        have : many ≠ 0 := by rw [hmany, h]; simp; omega
        have h1 : (y == -1) = false := by simp; omega
        have h2 : (many == 0) = false := by simpa using this
        rw [h1, h2]; rfl
    · refine VIf_dec (fun hm => ⟨⟨by omega, by omega⟩, gi ⟨p0, p39, L1, L2, f, hh, ch, hi, ti, r', _, rfl, hs, hs2, I, lg, h0, rfl, f82, hR', ia', oa', ?_, ?_, by omega⟩⟩) (fun hm => gi ⟨p0, p39, L1, L2, f, hh, ch, hi, ti, r', _, rfl, hs, hs2, I, lg, h0, rfl, f82, hR', ia', oa', ?_, ?_, by omega⟩)
      · rcases hq with ⟨h1, _, _⟩ | h
        · rw [hmany, h1] at hm; simp at hm
        · rw [hmany, h]; simp
      · rcases hq with ⟨h1, _, h3⟩ | h
        · rw [h3]; simp
        · exact fun z hz => hpos z (by rw [h]; exact .tail _ hz)
      · rcases hq with ⟨h1, _, h3⟩ | h
        · rw [hmany, h1, h3]
        · rw [hmany, h] at hm; simp at hm <;> omega
      · rcases hq with ⟨h1, _, h3⟩ | h
        · rw [h3]; simp
        · exact fun z hz => hpos z (by rw [h]; exact .tail _ hz)
end Go.Proofs.Ytogbkgimpkaemaa
