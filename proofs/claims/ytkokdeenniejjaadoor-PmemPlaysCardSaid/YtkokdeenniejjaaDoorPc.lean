import Derived.Test.YtkokdeenniejjaaDoorPb
import Derived.Test.YtkokdeenniejjaaDoorEngJ
namespace Go.Proofs.YtkokdeenniejjaaDoor
open Go.Eng
set_option maxRecDepth 20000
/-! ### fence, crash, and steps -/
theorem pmem_fence_c {p n : Nat} {F : Nat → PCell} {L own : List Ent} {ro : Addr → Option Value} {post : Value → H → Prop} (A C : List Ent) (hown : own = A ++ (L ++ C)) (hs : MemAt p n F L) (hn : n ≤ 1000)
    (hk : ∀ L', MemAt p n (fun k => pF (F k)) L' → post (.tuple (List.toArray [])) ⟨A ++ (L' ++ C), ro⟩) :
    SemCall Tryd.prog 23 (List.toArray [.pointer (some (Addr.mk p 0 none))]) ⟨own, ro⟩ post := by
  refine lift A C hown (Q := fun L' => MemAt p n (fun k => pF (F k)) L') ?_ hk
  clear hk hown post
  intro post hk
  obtain ⟨b, c, rfl⟩ := hs
  refine f23_call _ _ post ?_
  refine ⟨_, rfl, ⟨some (Addr.mk b 0 none), n, n⟩, by rw [add_mk', add_mk']; exact prs, ?_⟩
  refine ⟨fun h => h = ⟨[pE b c n (fun k => pF (F k)), pP p b n], ro⟩, ⟨fun m i h => ∃ k : Nat, i = k ∧ k ≤ n ∧ m = n - k ∧ h = ⟨[pE b c n (pUp pF F k), pP p b n], ro⟩, ⟨n, gi ⟨0, rfl, Nat.zero_le _, rfl, ?_⟩⟩, ?_⟩, ?_⟩
  · have : rm n (pUp pF F 0) = rm n F := rmc fun k _ => by unfold pUp; rw [if_neg (by omega)]
    unfold pE; rw [this]; rfl
  · rintro m _ i _ ⟨k, rfl, hk', rfl, rfl⟩
    refine VIf_dec (fun hlt => ?_) (fun hge => ?_)
    rotate_left
    · obtain rfl : k = n := by simp only at hge; omega
      refine gi ?_
      have : rm k (pUp pF F k) = rm k (fun j => pF (F j)) := rmc fun j hj => by unfold pUp; rw [if_pos hj]
      unfold pE; rw [this]
    have hkn : k < n := by simp only at hlt; omega
    have ek : pUp pF F k k = F k := by unfold pUp; rw [if_neg (by omega)]
    refine ⟨_, rfl, ⟨some (Addr.mk b 0 none), n, n⟩, by rw [add_mk', add_mk']; exact prs, Addr.mk b 0 none, rfl, by omega, by simp only; omega, ?_⟩
    simp only [add_mk', Option.some.injEq, exists_eq_left', Nat.zero_add, Nat.add_zero, Int.toNat_natCast]
    refine ⟨(pUp pF F k k).f, pr (j := 3) hkn rfl, VIf_b (fun hf => ?_) (fun hf => ?_)⟩
    · refine ⟨(pUp pF F k k).x, pr (j := 2) hkn rfl, ?_⟩
      refine pw (j := 1) { pUp pF F k k with s := (pUp pF F k k).x } hkn ⟨rfl, trivial⟩ (by simp) rfl ?_
      refine pw (j := 3) { pUp pF F k k with s := (pUp pF F k k).x, f := false } hkn ⟨rfl, trivial⟩ (by simp) (by rw [updN_same]; rfl) ⟨⟨by omega, by omega⟩, n - (k + 1), by omega, gi ⟨k + 1, by omega, by omega, rfl, ?_⟩⟩
      have : rm n (updN (updN (pUp pF F k) k { pUp pF F k k with s := (pUp pF F k k).x }) k { pUp pF F k k with s := (pUp pF F k k).x, f := false }) = rm n (pUp pF F (k + 1)) := rmc fun j _ => by
        by_cases e : j = k
        · subst e
          rw [updN_same, ek]
          unfold pUp
          rw [if_pos (by omega), pF, if_pos (by rw [← ek]; exact hf)]
        · rw [updN_ne e, updN_ne e]
          unfold pUp
          by_cases h : j < k
          · rw [if_pos h, if_pos (by omega)]
          · rw [if_neg h, if_neg (by omega)]
      unfold pE; rw [this]
    · refine ⟨⟨by omega, by omega⟩, n - (k + 1), by omega, gi ⟨k + 1, by omega, by omega, rfl, ?_⟩⟩
      have : rm n (pUp pF F k) = rm n (pUp pF F (k + 1)) := rmc fun j _ => by
        by_cases e : j = k
        · subst e
          rw [ek]
          unfold pUp
          rw [if_pos (by omega), pF, if_neg (by rw [← ek, hf]; decide)]
        · unfold pUp
          by_cases h : j < k
          · rw [if_pos h, if_pos (by omega)]
          · rw [if_neg h, if_neg (by omega)]
      unfold pE; rw [this]
  · rintro _ _ rfl
    exact ret (hk _ ⟨b, c, rfl⟩)
theorem pow2_le {n : Nat} (hn : n ≤ 8) : (1 : Int) ≤ 2 ^ n ∧ (2 : Int) ^ n ≤ 256 := by
  rcases (show n = 0 ∨ n = 1 ∨ n = 2 ∨ n = 3 ∨ n = 4 ∨ n = 5 ∨ n = 6 ∨ n = 7 ∨ n = 8 by omega) with rfl | rfl | rfl | rfl | rfl | rfl | rfl | rfl | rfl <;> decide
theorem core_mask_c {set : Int} {n : Nat} {h : H} {post : Value → H → Prop} (hn : n ≤ 8) (hk : post (.bool (decide (0 ≤ set ∧ set < 2 ^ n))) h) : SemCall Tryd.prog 44 (List.toArray [.int .i64 set, .int .i64 (n : Int)]) h post := by
  refine f44_call _ _ _ post ?_
  have hp := pow2_le hn
  refine join_b (h := h) (decide (0 ≤ set ∧ set < 2 ^ n)) (VIf_dec (fun h0 => ⟨by omega, by omega, ?_, gi ⟨rfl, ?_⟩⟩) (fun h0 => gi ⟨rfl, (decide_eq_false (fun h => h0 h.1)).symm⟩)) (ret hk)
  · rw [Int.toNat_natCast, Int.one_mul]; exact ⟨by omega, by omega⟩
  · rw [Int.toNat_natCast, Int.one_mul]
    exact decide_eq_decide.2 ⟨fun h => ⟨h0, h⟩, fun h => h.2⟩
theorem pmem_crash_c {p n : Nat} {F : Nat → PCell} {keep : Int} {L own : List Ent} {ro : Addr → Option Value} {post : Value → H → Prop} (A C : List Ent) (hown : own = A ++ (L ++ C)) (hs : MemAt p n F L) (hn : n ≤ 8)
    (hk : ∀ L', MemAt p n (pCrash n F keep).1 L' → post (errV (eno 66 (pCrash n F keep).2)) ⟨A ++ (L' ++ C), ro⟩) :
    SemCall Tryd.prog 22 (List.toArray [.pointer (some (Addr.mk p 0 none)), .int .i64 keep]) ⟨own, ro⟩ post := by
  refine lift A C hown (Q := fun L' => MemAt p n (pCrash n F keep).1 L') ?_ hk
  clear hk hown post
  intro post hk
  obtain ⟨b, c, rfl⟩ := hs
  refine f22_call _ _ _ post ?_
  refine ⟨_, rfl, ⟨some (Addr.mk b 0 none), n, n⟩, by rw [add_mk', add_mk']; exact prs, core_mask_c hn ⟨_, rfl, VIf_not (fun hm => ?_) (fun hm => ?_)⟩⟩
  · rw [pCrash, if_pos hm] at hk
    exact ret (hk _ ⟨b, c, rfl⟩)
  rw [pCrash, if_neg (not_not_intro hm)] at hk
  refine ⟨_, rfl, ⟨some (Addr.mk b 0 none), n, n⟩, by rw [add_mk', add_mk']; exact prs, ?_⟩
  refine ⟨fun h => h = ⟨[pE b c n (fun k => pC keep k (F k)), pP p b n], ro⟩, ⟨fun m i h => ∃ k : Nat, i = k ∧ k ≤ n ∧ m = n - k ∧ h = ⟨[pE b c n (fun j => if j < k then pC keep j (F j) else F j), pP p b n], ro⟩, ⟨n, gi ⟨0, rfl, Nat.zero_le _, rfl, ?_⟩⟩, ?_⟩, ?_⟩
  · have : rm n (fun j => if j < 0 then pC keep j (F j) else F j) = rm n F := rmc fun k _ => by rw [if_neg (by omega)]
    unfold pE; rw [this]; rfl
  · rintro m _ i _ ⟨k, rfl, hk', rfl, rfl⟩
    refine VIf_dec (fun hlt => ?_) (fun hge => ?_)
    rotate_left
    · obtain rfl : k = n := by simp only at hge; omega
      refine gi ?_
      have : rm k (fun j => if j < k then pC keep j (F j) else F j) = rm k (fun j => pC keep j (F j)) := rmc fun j hj => by rw [if_pos hj]
      unfold pE; rw [this]
    have hkn : k < n := by simp only at hlt; omega
    obtain ⟨G, hG⟩ : ∃ G : Nat → PCell, G = fun j => if j < k then pC keep j (F j) else F j := ⟨_, rfl⟩
    have ek : G k = F k := by rw [hG]; simp only; rw [if_neg (by omega)]
    rw [← hG]
    refine ⟨_, rfl, ⟨some (Addr.mk b 0 none), n, n⟩, by rw [add_mk', add_mk']; exact prs, Addr.mk b 0 none, rfl, by omega, by simp only; omega, ?_⟩
    refine f45_call _ _ _ _ ⟨by omega, by omega, ret ⟨_, rfl, ?_⟩⟩
    simp only [add_mk', Option.some.injEq, exists_eq_left', Nat.zero_add, Nat.add_zero, Int.toNat_natCast]
    have eb : (bitsV .and (Int.fdiv keep (2 ^ k)) 1 == 1) = pB keep k := rfl
    rw [eb]
    refine ⟨fun h => h = ⟨[pE b c n (updN G k { G k with s := if pB keep k then (G k).a else (G k).s }), pP p b n], ro⟩, VIf_b (fun hb => ⟨(G k).a, pr (j := 0) hkn rfl, pw (j := 1) { G k with s := (G k).a } hkn ⟨rfl, trivial⟩ (by simp) rfl (gi (by rw [if_pos hb]))⟩) (fun hb => gi ?_), ?_⟩
    · rw [if_neg (by rw [hb]; decide)]
      have : rm n G = rm n (updN G k { G k with s := (G k).s }) := rmc fun j _ => by
        by_cases e : j = k
        · subst e; rw [updN_same]
        · rw [updN_ne e]
      unfold pE; rw [← this]
    · rintro _ _ rfl
      have e1 : (updN G k { G k with s := if pB keep k then (G k).a else (G k).s } k).s = if pB keep k then (G k).a else (G k).s := by rw [updN_same]
      refine ⟨_, pr (j := 1) hkn (by rw [updN_same]; rfl), _, pr (j := 1) hkn (by rw [updN_same]; rfl), rfl, rfl, ?_⟩
      refine pw (j := 0) ⟨if pB keep k then (G k).a else (G k).s, if pB keep k then (G k).a else (G k).s, 0, false⟩ hkn ⟨rfl, rfl, rfl, rfl, trivial⟩ (by simp) (by rw [updN_same]; rfl) ⟨⟨by omega, by omega⟩, n - (k + 1), by omega, gi ⟨k + 1, by omega, by omega, rfl, ?_⟩⟩
      have : rm n (updN (updN G k { G k with s := if pB keep k then (G k).a else (G k).s }) k ⟨if pB keep k then (G k).a else (G k).s, if pB keep k then (G k).a else (G k).s, 0, false⟩) = rm n (fun j => if j < k + 1 then pC keep j (F j) else F j) := rmc fun j _ => by
        by_cases e : j = k
        · subst e
          rw [updN_same, ek, if_pos (show j < j + 1 by omega)]
          rfl
        · rw [updN_ne e, updN_ne e, hG]
          simp only
          by_cases h : j < k
          · rw [if_pos h, if_pos (by omega)]
          · rw [if_neg h, if_neg (by omega)]
      unfold pE; rw [this]
  · rintro _ _ rfl
    exact ret (hk _ ⟨b, c, rfl⟩)
theorem idx2 {h : H} {s : SV} {xs : List Int} (r : RdSl h s (ints xs)) (h1 : 2 < xs.length) {K : Int → Prop} (hK : K (gI xs 2)) :
    ∃ b : Addr, s.a = some b ∧ 0 ≤ (2 : Int) ∧ (2 : Int) < ((s.len : Nat) : Int) ∧ ∃ x : Int, H.rd h (Addr.add (Addr.add b ((2 : Int).toNat * 1)) 0) (Value.int .i64 x) ∧ K x := idxI r (by omega) (by omega) hK
end Go.Proofs.YtkokdeenniejjaaDoor
