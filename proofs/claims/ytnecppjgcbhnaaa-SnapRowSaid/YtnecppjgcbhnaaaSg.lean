import Derived.Test.YtnecppjgcbhnaaaSl
import Derived.Test.YtnecppjgcbhnaaaEngJ
namespace Go.Proofs.Ytnecppjgcbhnaaa
open Go.Eng
def SGo (b : Board) (n : Nat) (q m : Int) : Prop := 0 ≤ q → ∀ h, b.hands[q.toNat]? = some h → SMine n h m
theorem SGo.other {b : Board} {n : Nat} {q m x : Int} {y : SHand} {ws : List SWord} (h : SGo b n q m) (h0 : 0 ≤ x) (hne : x ≠ q) : SGo { words := ws, hands := b.hands.set x.toNat y } n q m := by
  intro q0 g hg
  dsimp only at hg
  rw [List.getElem?_set_ne (by omega)] at hg
  exact h q0 g hg
theorem SGo.mine {b : Board} {n : Nat} {q m : Int} {y : SHand} {ws : List SWord} (h : SMine n y m) : SGo { words := ws, hands := b.hands.set q.toNat y } n q m := by
  intro q0 g hg
  rcases set_cases hg with ⟨_, rfl⟩ | ⟨hne, _⟩
  · exact h
  · exact absurd rfl hne
theorem SMine.idle (n : Nat) (m : Int) : SMine n shand0 m := ⟨by simp [shand0], by simp [shand0], by simp [shand0]⟩
theorem SGo.begin {b : Board} {n : Nat} {i q m : Int} (hI : SInv b n i) (hg : SGo b n q m) (x : Int) (wr : Bool) (v : Int) :
    SInv (snapBegin b x wr v).1 n i ∧ ((snapBegin b x wr v).2 = 0 ∧ x = q → SGo (snapBegin b x wr v).1 n q 0) ∧ (¬ ((snapBegin b x wr v).2 = 0 ∧ x = q) → SGo (snapBegin b x wr v).1 n q m) := by
  rcases hI.begin x wr v with ⟨k, hk, e⟩ | ⟨h0, h1, h, hh, hl, e, hI'⟩ <;> rw [e]
  · exact ⟨hI, fun h => absurd h.1 hk, fun _ => hg⟩
  · refine ⟨hI', fun hx => ?_, fun hx => hg.other h0 (fun he => hx ⟨rfl, he⟩)⟩
    rw [hx.2]
    exact SGo.mine ⟨by simp, by simp, by simp⟩
theorem SGo.step {b : Board} {n : Nat} {i q m : Int} (hI : SInv b n i) (hg : SGo b n q m) (x : Int) :
    SInv (snapStep b x).1 n (i + 1) ∧ ((snapStep b x).2.2.2 = 0 ∧ x = q → m + 1 ≤ n * (n + 2) + 1 ∧ (m + 1 = n * (n + 2) + 1 → (snapStep b x).2.1 = true) ∧ SGo (snapStep b x).1 n q (m + 1)) ∧ (¬ ((snapStep b x).2.2.2 = 0 ∧ x = q) → SGo (snapStep b x).1 n q m) := by
  have n0 := hI.n0
  have n4 := hI.n4
  have hn : n = 1 ∨ n = 2 ∨ n = 3 ∨ n = 4 := by omega
  have hsum : ∀ h ∈ b.hands, h.ln = 2 → 0 ≤ h.moved.sum ∧ h.moved.sum ≤ (n : Int) := fun h hh hl => by
    obtain ⟨m1, m2⟩ := hI.mv h hh (.inr hl)
    have := sum_le_len m2
    omega
  have hsum1 : ∀ h ∈ b.hands, h.ln = 1 → 0 ≤ h.moved.sum ∧ h.moved.sum ≤ (n : Int) := fun h hh hl => by
    obtain ⟨m1, m2⟩ := hI.mv h hh (.inl hl)
    have := sum_le_len m2
    omega
  rcases hI.step x with ⟨k, hk, e⟩ | ⟨h0, h1, h, y, w, hh, hl, hw, hk0, hk, hf, hy, e, hI'⟩ | ⟨h0, h1, h, y, w, hh, hl, hw, hk0, hk, hf, hy, e, hI'⟩ | ⟨h0, h1, h, y, w, hh, hl, hw, hk0, hk, hf, hgo, hy, e, hI'⟩ | ⟨h0, h1, h, y, w, hh, hl, hw, hk0, hk, hf, hgo, hwr, hy, e, hI'⟩ | ⟨h0, h1, h, w, hh, hl, hw, hk0, hk, hf, hgo, hwr, hsl, e, hI'⟩ | ⟨h0, h1, h, w, hh, hl, hw, hwr, e, hI'⟩ <;> rw [e]
  · exact ⟨hI.mono, fun h => absurd h.1 hk, fun _ => hg⟩
  · refine ⟨hI'.mono, fun hx => ?_, fun hx => hg.other h0 (fun he => hx ⟨rfl, he⟩)⟩
    obtain ⟨_, rfl⟩ := hx
    obtain ⟨a1, a2, a3⟩ := hg h0 h hh
    have b1 := a1 hl
    have hs := hsum1 h (List.mem_of_getElem? hh) hl
    obtain ⟨y1, y2, y3, y4, y5, hc⟩ := hy
    rcases hc with ⟨c1, c2, c3⟩ | ⟨c1, c2, c3⟩
    · refine ⟨?_, fun hm => ?_, SGo.mine ⟨by omega, fun _ => ?_, by omega⟩⟩
      · rcases hn with rfl | rfl | rfl | rfl <;> simp <;> omega
      · rcases hn with rfl | rfl | rfl | rfl <;> simp at hm <;> omega
      · rw [y3, c3]
        rcases hn with rfl | rfl | rfl | rfl <;> simp <;> omega
    · refine ⟨?_, fun hm => ?_, SGo.mine ⟨by omega, by omega, by omega⟩⟩
      · rcases hn with rfl | rfl | rfl | rfl <;> simp <;> omega
      · rcases hn with rfl | rfl | rfl | rfl <;> simp at hm <;> omega
  · refine ⟨hI'.mono, fun hx => ?_, fun hx => hg.other h0 (fun he => hx ⟨rfl, he⟩)⟩
    obtain ⟨_, rfl⟩ := hx
    obtain ⟨a1, a2, a3⟩ := hg h0 h hh
    have b2 := a2 hl
    have hs := hsum h (List.mem_of_getElem? hh) hl
    subst hy
    refine ⟨?_, fun hm => ?_, SGo.mine ⟨fun h => absurd hl (by simp at h; omega), fun _ => ?_, fun h => absurd hl (by simp at h; omega)⟩⟩
    · rcases hn with rfl | rfl | rfl | rfl <;> simp at b2 ⊢ <;> omega
    · rcases hn with rfl | rfl | rfl | rfl <;> simp at b2 hm <;> omega
    · dsimp only; omega
  · refine ⟨hI'.mono, fun hx => ?_, fun hx => hg.other h0 (fun he => hx ⟨rfl, he⟩)⟩
    obtain ⟨_, rfl⟩ := hx
    obtain ⟨a1, a2, a3⟩ := hg h0 h hh
    have b2 := a2 hl
    have hm := List.mem_of_getElem? hh
    have hs := hsum h hm hl
    obtain ⟨m1, m2⟩ := hI.mv h hm (.inr hl)
    obtain ⟨_, _, kf, _, _, _⟩ := (hI.s h hm).a2 hl
    have sp := ((seesGo_spec h.first (h.last ++ [w]) 0 h.moved [] true (by simp; omega) (by omega) m2).2 hgo).2.2.2
    simp at sp
    subst hy
    refine ⟨?_, fun hm => ?_, SGo.mine ⟨fun h => absurd hl (by simp at h; omega), fun _ => ?_, fun h => absurd hl (by simp at h; omega)⟩⟩
    · rcases hn with rfl | rfl | rfl | rfl <;> simp at b2 ⊢ <;> omega
    · rcases hn with rfl | rfl | rfl | rfl <;> simp at b2 hm <;> omega
    · dsimp only
      generalize (seesGo h.first (h.last ++ [w]) 0 h.moved [] true).2.2.sum = s2 at sp ⊢
      rcases hn with rfl | rfl | rfl | rfl <;> simp at b2 ⊢ <;> omega
  · refine ⟨hI'.mono, fun hx => ?_, fun hx => hg.other h0 (fun he => hx ⟨rfl, he⟩)⟩
    obtain ⟨_, rfl⟩ := hx
    obtain ⟨a1, a2, a3⟩ := hg h0 h hh
    have b2 := a2 hl
    have hs := hsum h (List.mem_of_getElem? hh) hl
    refine ⟨?_, fun hm => ?_, SGo.mine ⟨by omega, by omega, fun _ => ?_⟩⟩
    · rcases hn with rfl | rfl | rfl | rfl <;> simp at b2 ⊢ <;> omega
    · rcases hn with rfl | rfl | rfl | rfl <;> simp at b2 hm <;> omega
    · rcases hn with rfl | rfl | rfl | rfl <;> simp at b2 ⊢ <;> omega
  · refine ⟨hI'.mono, fun hx => ?_, fun hx => hg.other h0 (fun he => hx ⟨rfl, he⟩)⟩
    obtain ⟨_, rfl⟩ := hx
    obtain ⟨a1, a2, a3⟩ := hg h0 h hh
    have b2 := a2 hl
    have hs := hsum h (List.mem_of_getElem? hh) hl
    refine ⟨?_, fun _ => rfl, SGo.mine (SMine.idle n _)⟩
    rcases hn with rfl | rfl | rfl | rfl <;> simp at b2 ⊢ <;> omega
  · refine ⟨hI', fun hx => ?_, fun hx => hg.other h0 (fun he => hx ⟨rfl, he⟩)⟩
    obtain ⟨_, rfl⟩ := hx
    obtain ⟨a1, a2, a3⟩ := hg h0 h hh
    have b3 := a3 hl
    exact ⟨by omega, fun _ => rfl, SGo.mine (SMine.idle n _)⟩

def sfb : Nat → Board
  | 0 => ⟨[⟨0, 0, [0]⟩], [⟨1, 0, true, 5, [], [], [0]⟩]⟩
  | 1 => ⟨[⟨0, 0, [0]⟩], [⟨2, 0, true, 5, [⟨0, 0, [0]⟩], [], [0]⟩]⟩
  | 2 => ⟨[⟨0, 0, [0]⟩], [⟨3, 0, true, 5, [⟨0, 0, [0]⟩], [⟨0, 0, [0]⟩], [0]⟩]⟩
  | _ => ⟨[⟨5, 1, [0]⟩], [shand0]⟩
theorem sfb_ok : ∀ k, BOk (sfb k)
  | 0 => ⟨rfl, by simp [sfb], by simp [sfb]; exact ⟨by simp, by simp, by simp⟩⟩
  | 1 => ⟨rfl, by simp [sfb], by simp [sfb]; exact ⟨by simp, by simp, by simp⟩⟩
  | 2 => ⟨rfl, by simp [sfb], by simp [sfb]; exact ⟨by simp, by simp, by simp⟩⟩
  | _ + 3 => ⟨rfl, by simp [sfb], by simp [sfb]; exact shand0_ok 1⟩
theorem sfb_step : ∀ k, k < 3 → (snapStep (sfb k) 0).1 = sfb (k + 1) ∧ (snapStep (sfb k) 0).2.2.2 = 0
  | 0, _ => ⟨rfl, rfl⟩
  | 1, _ => ⟨rfl, rfl⟩
  | 2, _ => ⟨rfl, rfl⟩
  | _ + 3, h => by omega
theorem snap_fact_c {own : List Ent} {ro : Addr → Option Value} {post : Value → H → Prop} (hk : ∀ ro', (∀ a v, ro a = some v → ro' a = some v) → post (.bool true) ⟨own, ro'⟩) : SemCall Try.prog 21 (List.toArray []) ⟨own, ro⟩ post := by
  refine f21_call _ post ?_
  refine board_new_c (fun hc => absurd ⟨by decide, by decide⟩ hc) (fun p L ro1 m1 hs _ _ => ⟨_, none, rfl, ?_⟩)
  refine ⟨fun b h => b = false ∧ ∃ L, h = ⟨own ++ L, ro1⟩ ∧ BoardAt p (sfb 0) L ro1, VIf_nnil ?_, ?_⟩
  · refine snap_write_c own [] (by simp) hs (fun L1 h1 => ⟨none, rfl, rfl, gi ⟨rfl, L1, by simp, h1⟩⟩)
  rintro _ b h ⟨rfl, L1, rfl, h1⟩
  refine VIf_b (nomatch ·) (fun _ => ?_)
  refine ⟨fun h => ∃ L ro2, (∀ a v, ro1 a = some v → ro2 a = some v) ∧ h = ⟨own ++ L, ro2⟩ ∧ BoardAt p (sfb 3) L ro2, ⟨fun n i h => ∃ (k : Nat) (L : List Ent) (ro2 : Addr → Option Value), (∀ a v, ro1 a = some v → ro2 a = some v) ∧ h = ⟨own ++ L, ro2⟩ ∧ BoardAt p (sfb k) L ro2 ∧ i = k ∧ k ≤ 3 ∧ n = 3 - k, ⟨3, gi ⟨0, L1, ro1, fun _ _ h => h, rfl, h1, rfl, by omega, rfl⟩⟩, ?_⟩, ?_⟩
  · rintro n _ i h ⟨k, L, ro2, m2, rfl, hs, rfl, hk3, rfl⟩
    refine VIf_dec (fun hi => ?_) (fun hi => gi ⟨L, ro2, m2, rfl, by rw [show 3 = k by omega]; exact hs⟩)
    have hi : (k : Int) < 3 := hi
    obtain ⟨e1, e2⟩ := sfb_step k (by omega)
    refine snap_step_c own [] (by simp) hs (sfb_ok k) (fun L' s' e' ro3 m3 h3 _ => ⟨_, s', _, rfl, ?_⟩)
    rw [e1] at h3
    rw [e2]
    refine VIf_nnil ⟨⟨by omega, by omega⟩, 3 - (k + 1), by omega, ⟨own ++ L', ro3⟩, Gh.drop (by simp), k + 1, L', ro3, fun a v h => m3 a v (m2 a v h), rfl, h3, by omega, by omega, rfl⟩
  rintro _ h ⟨L2, ro2, m2, rfl, h2⟩
  refine snap_look_c own [] (by simp) h2 (fun L3 h3 => ⟨none, rfl, VIf_nnil ?_⟩)
  have h3 : BoardAt p ⟨[⟨5, 1, [0]⟩], [⟨1, 0, false, 0, [], [], [0]⟩]⟩ L3 ro2 := h3
  refine snap_step_c own [] (by simp) h3 ⟨rfl, by simp, by simp; exact ⟨by simp, by simp, by simp⟩⟩ (fun L4 s4 e4 ro4 m4 h4 _ => ⟨false, s4, none, rfl, ?_⟩)
  have h4 : BoardAt p ⟨[⟨5, 1, [0]⟩], [⟨2, 0, false, 0, [⟨5, 1, [0]⟩], [], [0]⟩]⟩ L4 ro4 := h4
  refine snap_step_c own [e4] (by simp) h4 ⟨rfl, by simp, by simp; exact ⟨by simp, by simp, by simp⟩⟩ (fun L5 s5 e5 ro5 m5 h5 o5 => ⟨true, s5, none, rfl, ?_⟩)
  have o5 : OwnsSl 1 s5 e5 (ints [5]) := o5
  refine ⟨fun b h => b = true ∧ h = ⟨own, ro5⟩, VIf_nil (VIf_nil (VIf_b (fun _ => ?_) (nomatch ·))), ?_⟩
  · intro r _
    have g1 : RdSl ⟨own ++ (L5 ++ [e5] ++ [e4]) ++ [⟨some r, [.int .i64 5], [Value.int .i64 5].length⟩], ro5⟩ s5 (ints [5]) := RdSl.of_own (e := e5) (by simp) o5
    have g2 : RdSl ⟨own ++ (L5 ++ [e5] ++ [e4]) ++ [⟨some r, [.int .i64 5], [Value.int .i64 5].length⟩], ro5⟩ ⟨some (Addr.mk r 0 none), 1, 1⟩ (ints [5]) := RdSl.row (n := 1) (vs := ints [5]) (e := ⟨some r, [.int .i64 5], 1⟩) (by simp) rfl rfl
    have hlen := o5.sl_len
    simp at hlen
    refine same_ints_c (s2 := ⟨some (Addr.mk r 0 none), 1, 1⟩) g1 g2 (by omega) ⟨_, rfl, ?_⟩
    exact ⟨⟨own, ro5⟩, Gh.drop (by simp), by simp, rfl⟩
  · rintro _ b h ⟨rfl, rfl⟩; exact ret (hk _ (fun a v h => m5 a v (m4 a v (m2 a v (m1 a v h)))))
def SnSt (p : Nat) (ro : Addr → Option Value) (n q m i : Int) (h : H) : Prop :=
  ∃ L b ro', (∀ a v, ro a = some v → ro' a = some v) ∧ h = ⟨L, ro'⟩ ∧ BoardAt p b L ro' ∧ SInv b n.toNat i ∧ SGo b n.toNat q m ∧ 0 ≤ m ∧ m ≤ i
theorem snapGoes_c {n : Int} {st : SV} {rows : List (SV × List Int)} {q : Int} {ro : Addr → Option Value} {post : Value → H → Prop} (hr : RdRowsOf ⟨[], ro⟩ st rows) (hpost : ∀ h, post (.bool true) h) :
    SemCall Try.prog 7 (List.toArray [.int .i64 n, .slice st.a st.len st.cap, .int .i64 q]) ⟨[], ro⟩ post := by
  refine f7_call _ _ _ _ post ?_
  refine snap_fact_c (fun ro0 m0 => ⟨_, rfl, VIf_nb (nomatch ·) (fun _ => ?_)⟩)
  refine board_new_c (fun hc => ⟨_, _, rfl, VIf_nerr (fun _ => ?_) (nomatch ·)⟩) (fun p L ro1 m1 hs c0 c1 => ⟨_, none, rfl, VIf_nnil ?_⟩)
  · exact join_or (ret (by rw [decide_eq_true (show n < 1 ∨ n > 4 by omega)]; exact hpost _))
  refine ⟨fun _ => True, ⟨fun k m i h => SnSt p ro n q m i h ∧ 0 ≤ i ∧ i ≤ 300 ∧ k = (300 - i).toNat, ⟨300, gi ⟨⟨L, _, ro1, fun a v h => m1 a v (m0 a v h), rfl, hs, SInv.start (by omega) (by omega), fun q0 h hh => ?_, by omega, by omega⟩, by omega, by omega, rfl⟩⟩, ?_⟩, fun _ h _ => ret (hpost h)⟩
  · dsimp only at hh
    rw [List.getElem?_replicate] at hh
    split at hh
    · cases hh; exact SMine.idle _ _
    · cases hh
  rintro k _ m i h ⟨⟨L, b, ro', mr, rfl, hs, hI, hG, hm0, hm1⟩, hi0, hi1, rfl⟩
  have hr : ∀ {own ro'}, (∀ a v, ro a = some v → ro' a = some v) → RdRowsOf ⟨own, ro'⟩ st rows := fun h => hr.mono (by simp) h
  refine join_and (VIf_dec (fun hi => ?_) (fun _ => gi trivial))
  refine (hr mr).idx hi0 hi.1 fun t xs ht htr => ?_
  have htr : ∀ {own ro'}, (∀ a v, ro a = some v → ro' a = some v) → RdSl ⟨own, ro'⟩ t (ints xs) := fun {own ro'} h => (hr h).2 _ (List.mem_of_getElem? ht)
  refine ⟨fun m h => SnSt p ro n q m i h, VIf_eq (fun h2 => ?_) (fun _ => gi ⟨L, b, ro', mr, rfl, hs, hI, hG, hm0, hm1⟩), ?_⟩
  · refine (htr mr).idx (by omega) (by omega) fun x1 hx1 => ?_
    obtain ⟨x0, hx0⟩ : ∃ x0, xs[(0 : Int).toNat]? = some x0 := by
      have := (htr (own := []) mr).len
      rw [ints_length] at this
      exact ⟨_, List.getElem?_eq_getElem (by omega)⟩
    refine ⟨fun w h => ∃ L b, h = ⟨L, ro'⟩ ∧ BoardAt p b L ro' ∧ SInv b n.toNat i ∧ (w = 0 ∧ x0 = q → SGo b n.toNat q 0) ∧ (¬ (w = 0 ∧ x0 = q) → SGo b n.toNat q m), VIf_dec (fun _ => ?_) (fun _ => ?_), ?_⟩
    · refine (htr mr).idx (by omega) (by omega) fun y0 hy0 => ?_
      rw [hx0] at hy0; cases hy0
      refine (htr mr).idx (by omega) (by omega) fun y1 hy1 => ?_
      refine snap_write_c [] [] (by simp) hs (fun L1 h1 => ⟨_, rfl, ?_⟩)
      obtain ⟨g1, g2, g3⟩ := hG.begin hI x0 true y1
      refine VIf_nerr (fun he => gi ⟨L1, _, by simp, h1, g1, by simp, fun _ => g3 (fun h => he h.1)⟩) (fun he => gi ⟨L1, _, by simp, h1, g1, fun h => g2 ⟨he, h.2⟩, fun h => g3 (fun h' => h ⟨rfl, h'.2⟩)⟩)
    · refine (htr mr).idx (by omega) (by omega) fun y0 hy0 => ?_
      rw [hx0] at hy0; cases hy0
      refine snap_look_c [] [] (by simp) hs (fun L1 h1 => ⟨_, rfl, ?_⟩)
      obtain ⟨g1, g2, g3⟩ := hG.begin hI x0 false 0
      refine VIf_nerr (fun he => gi ⟨L1, _, by simp, h1, g1, by simp, fun _ => g3 (fun h => he h.1)⟩) (fun he => gi ⟨L1, _, by simp, h1, g1, fun h => g2 ⟨he, h.2⟩, fun h => g3 (fun h' => h ⟨rfl, h'.2⟩)⟩)
    clear hs hI hG
    rintro _ w h ⟨L, b, rfl, hs, hI, hG0, hG1⟩
    refine ⟨fun b' h => h = ⟨L, ro'⟩ ∧ b' = decide (w = 0 ∧ x0 = q), VIf_eq (fun hw => ?_) (fun hw => gi ⟨rfl, (decide_eq_false (fun h => hw h.1)).symm⟩), ?_⟩
    · refine (htr mr).idx (by omega) (by omega) fun y0 hy0 => gi ⟨rfl, ?_⟩
      rw [hx0] at hy0; cases hy0
      by_cases hq : x0 = q <;> simp [hw, hq]
    rintro _ b' h ⟨rfl, rfl⟩
    exact VIf_dec (fun hw => gi ⟨L, b, ro', mr, rfl, hs, hI, hG0 hw, by omega, by omega⟩) (fun hw => gi ⟨L, b, ro', mr, rfl, hs, hI, hG1 hw, hm0, hm1⟩)
  clear hs hI hG hm0 hm1 mr
  rintro _ m h ⟨L, b, ro', mr, rfl, hs, hI, hG, hm0, hm1⟩
  have fin : ∀ m h, SnSt p ro n q m (i + 1) h → (In64 (i + 1) ∧ ∃ m16, m16 < (300 - i).toNat ∧ ∃ h45, Gh h h45 ∧ SnSt p ro n q m (i + 1) h45 ∧ 0 ≤ i + 1 ∧ i + 1 ≤ 300 ∧ m16 = (300 - (i + 1)).toNat) := fun m h hU => ⟨⟨by omega, by omega⟩, _, by omega, gi ⟨hU, by omega, by omega, rfl⟩⟩
  refine VIf_ne (fun _ => fin m _ ⟨L, b, ro', mr, rfl, hs, hI.mono, hG, hm0, by omega⟩) (fun h1 => ?_)
  refine (htr mr).idx (by omega) (by omega) fun x0 hx0 => ?_
  refine snap_step_c [] [] (by simp) hs (hI.ok (by omega)) (fun L1 s1 e1 ro1 m1 h1 _ => ⟨_, s1, _, rfl, ?_⟩)
  obtain ⟨g1, g2, g3⟩ := hG.step hI x0
  have hb64 : (n : Int) = 1 ∨ n = 2 ∨ n = 3 ∨ n = 4 := by omega
  have hnn : ((n.toNat : Nat) : Int) = n := by omega
  rw [hnn] at g2
  have mr1 : ∀ a v, ro a = some v → ro1 a = some v := fun a v h => m1 a v (mr a v h)
  refine ⟨fun b' h => h = ⟨[] ++ (L1 ++ [e1] ++ []), ro1⟩ ∧ b' = decide ((snapStep b x0).2.2.2 = 0 ∧ x0 = q), VIf_err (fun he => ?_) (fun he => gi ⟨rfl, (decide_eq_false (fun h => he h.1)).symm⟩), ?_⟩
  · refine (htr mr1).idx (by omega) (by omega) fun y0 hy0 => gi ⟨rfl, ?_⟩
    rw [hx0] at hy0; cases hy0
    by_cases hq : x0 = q
    · subst hq; simp [he]
    · simp [hq]
  rintro _ b' h ⟨rfl, rfl⟩
  refine VIf_dec (fun hw => ?_) (fun hw => ?_)
  · obtain ⟨k1, k2, k3⟩ := g2 hw
    have i1 : In64 (n + 2) := by constructor <;> omega
    have i2 : In64 (n * (n + 2)) := by rcases hb64 with rfl | rfl | rfl | rfl <;> constructor <;> decide
    have i3 : In64 (n * (n + 2) + 1) := by rcases hb64 with rfl | rfl | rfl | rfl <;> constructor <;> decide
    refine ⟨⟨by omega, by omega⟩, join_b (h := ⟨[] ++ (L1 ++ [e1] ++ []), ro1⟩) false ⟨i1, i2, i3, VIf_dec (fun h => by omega) (fun _ => ⟨i1, i2, i3, VIf_eq (fun h => gi ⟨rfl, ?_⟩) (fun _ => gi ⟨rfl, rfl⟩)⟩)⟩ (VIf_b (nomatch ·) (fun _ => ⟨⟨by omega, by omega⟩, _, ?_, ⟨L1, ro1⟩, Gh.drop (by simp), ⟨L1, _, ro1, mr1, rfl, h1, g1, k3, by omega, by omega⟩, by omega, by omega, rfl⟩))⟩
    · rw [k2 h]; rfl
    · omega
  · refine ⟨⟨by omega, by omega⟩, _, ?_, ⟨L1, ro1⟩, Gh.drop (by simp), ⟨L1, _, ro1, mr1, rfl, h1, g1, g3 hw, by omega, by omega⟩, by omega, by omega, rfl⟩
    omega
end Go.Proofs.Ytnecppjgcbhnaaa
