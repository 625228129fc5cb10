import Derived.Test.YtiaopgnnibidlaaD9
import Derived.Test.YtiaopgnnibidlaaEngJ
namespace Go.Proofs.Ytiaopgnnibidlaa
open Go.Eng
set_option maxRecDepth 20000
def TkSt (p n : Nat) (ro : Addr → Option Value) (next : Int) (ps : Bool) (pushed : Int) (sp ss : SV) (k : Nat) (h : H) : Prop :=
  ∃ L ep es f hh po st, h = ⟨L ++ [ep, es], ro⟩ ∧ DqAt p n f hh L ∧ OwnsSl 1 sp ep (ints po) ∧ OwnsSl 1 ss es (ints st) ∧ Bnd (1000 + (k : Int)) f ∧ Bnd (1000 + (k : Int)) hh ∧ DS n f hh po st pushed next ps ∧ (280 ≤ k → Qt n k hh) ∧ next ≤ k ∧ next ≤ 280
theorem DS.lens {n : Nat} {f h : Nat → Int} {pops stls : List Int} {pushed next : Int} {ps : Bool} (I : DS n f h pops stls pushed next ps) : (pops.length : Int) ≤ pushed ∧ (stls.length : Int) ≤ pushed := by
  obtain ⟨In, hold, I⟩ := I
  have := I.c.len
  omega
theorem len_two {l : List Int} (h : l.length = 2) : ∃ a b, l = [a, b] := match l, h with | [a, b], _ => ⟨a, b, rfl⟩
theorem join_bk {h : H} {A : (Bool → H → Prop) → Prop} {K : Bool → H → Prop} (b : Bool) (hK : K b h) (hA : A (fun x h' => h' = h ∧ x = b)) : ∃ R : Bool → H → Prop, A R ∧ ∀ (_ : F) (x : Bool) (h' : H), R x h' → K x h' := join_b b hA hK
set_option maxHeartbeats 2000000 in
theorem taken_c {p n : Nat} {st : SV} {rows : List (SV × List Int)} {L : List Ent} {ro : Addr → Option Value} {post : Value → H → Prop} (hs : DqAt p n (fun _ => 0) (fun _ => 0) L) (hr : RdRowsOf ⟨[], ro⟩ st rows)
    (hpost : ∀ (pushed : Int) (sp ss : SV) (L : List Ent) (ep es : Ent) (f hh : Nat → Int) (po st In : List Int), DqAt p n f hh L → OwnsSl 1 sp ep (ints po) → OwnsSl 1 ss es (ints st) → Dq f In [] po st pushed → f 9 = f 8 + In.length → pushed ≤ 280 → Bnd 2000 f →
      post (.tuple (List.toArray [.int .i64 pushed, .slice sp.a sp.len sp.cap, .slice ss.a ss.len ss.cap])) ⟨L ++ [ep, es], ro⟩) :
    SemCall Try.prog 18 (List.toArray [.pointer (some (Addr.mk p 0 none)), .int .i64 (n : Int), .slice st.a st.len st.cap]) ⟨L, ro⟩ post := by
  have hn := hs.1
  have hn4 := hs.2.1
  have hr : ∀ {own}, RdRowsOf ⟨own, ro⟩ st rows := hr.mono (by simp) (fun _ _ h => h)
  refine f18_call _ _ _ _ post ?_
  refine ⟨fun pushed sp ss h => ∃ next ps, TkSt p n ro next ps pushed sp ss 360 h, ⟨fun m next ps pushed sp ss i h => ∃ k : Nat, i = (k : Int) ∧ k ≤ 360 ∧ m = 360 - k ∧ TkSt p n ro next ps pushed sp ss k h, ⟨_, ⟨L ++ [⟨none, [], 0⟩, ⟨none, [], 0⟩], ro⟩, ?_, 0, rfl, by omega, rfl, L, _, _, _, _, [], [], rfl, hs, OwnsSl.nil 1, OwnsSl.nil 1, ?_, ?_, ?_, fun h => by omega, by omega, by omega⟩, ?_⟩, ?_⟩
  · have g1 := Gh.phantom L [] ro 0
    have g2 := Gh.phantom (L ++ [⟨none, [], 0⟩]) [] ro 0
    simp only [List.append_nil, List.append_assoc, List.singleton_append] at g1 g2
    exact g1.trans g2
  · exact fun k => by constructor <;> dsimp only <;> omega
  · exact fun k => by constructor <;> dsimp only <;> omega
  · refine ⟨[], [], ⟨by omega, fun j hj => by simp at hj, by simp, .nil, fun x => ?_, by simp, .nil, fun x hx => by simp at hx⟩, fun q _ _ => .inl rfl, .inl ⟨rfl, by simp, rfl, rfl⟩⟩
    rw [if_neg (by omega)]; simp
  rotate_left
  · rintro _ pushed sp ss h ⟨next, ps, L, ep, es, f, hh, po, st, rfl, hs, hp, hs2, bf, bh, hD, hQ, n1, n2⟩
    have hnx := hD.next
    obtain ⟨In, hold, I⟩ := hD
    rcases I.h0 with ⟨a, b, c, k⟩ | ⟨a, _⟩ | ⟨a, _⟩ | ⟨a, _⟩ | ⟨a, _⟩ | ⟨a, _⟩ | ⟨a, _⟩
    · subst k
      exact ret (hpost _ _ _ _ _ _ _ _ _ _ _ hs hp hs2 I.c b (by omega) (bf.mono (by omega)))
    all_goals (have := (hQ (by omega)).end 0 (by omega); omega)
  rintro m _ next ps pushed sp ss i h ⟨k, rfl, hk, rfl, L, ep, es, f, hh, po, stl, rfl, hs, hp, hs2, bf, bh, hD, hQ, n1, n2⟩
  refine VIf_dec (fun hi => ?_) (fun hi => gi ⟨next, ps, L, ep, es, f, hh, po, stl, rfl, hs, hp, hs2, by rw [show 360 = k by omega]; exact bf, by rw [show 360 = k by omega]; exact bh, hD, by rw [show 360 = k by omega]; exact hQ, by omega, n2⟩)
  have hi : k < 360 := by omega
  refine ⟨by omega, ?_⟩
  intro r _
  have e : Int.tmod (k : Int) (n : Int) = ((k % n : Nat) : Int) := rfl
  rw [e]
  have hown : ∀ L : List Ent, L ++ [ep, es] ++ [⟨some r, [.int .i64 ((k % n : Nat) : Int)], [Value.int .i64 ((k % n : Nat) : Int)].length⟩] = L ++ [ep, es, ⟨some r, [.int .i64 ((k % n : Nat) : Int)], 1⟩] := fun L => by simp
  simp only [hown]
  obtain ⟨er, her⟩ : ∃ er : Ent, er = ⟨some r, [.int .i64 ((k % n : Nat) : Int)], 1⟩ := ⟨_, rfl⟩
  rw [← her]
  -- the state that is left
  have nxt : ∀ {L2 : List Ent} {f2 hh2 : Nat → Int} {sp2 ss2 : SV} {ep2 es2 : Ent} {po2 st2 : List Int} {pu nx : Int} {ps2 : Bool}, DqAt p n f2 hh2 L2 → OwnsSl 1 sp2 ep2 (ints po2) → OwnsSl 1 ss2 es2 (ints st2) → Bnd (1000 + (k : Int) + 1) f2 → Bnd (1000 + (k : Int) + 1) hh2 → DS n f2 hh2 po2 st2 pu nx ps2 →
      (280 ≤ k → Qt n (k + 1) hh2) → nx ≤ k + 1 → nx ≤ 280 → In64 ((k : Int) + 1) ∧ ∃ m4, m4 < 360 - k ∧ ∃ h, Gh ⟨L2 ++ [ep2, es2, er], ro⟩ h ∧ ∃ k2 : Nat, (k : Int) + 1 = (k2 : Int) ∧ k2 ≤ 360 ∧ m4 = 360 - k2 ∧ TkSt p n ro nx ps2 pu sp2 ss2 k2 h := by
    intro L2 f2 hh2 sp2 ss2 ep2 es2 po2 st2 pu nx ps2 a1 a2 a3 a4 a5 a6 a7 a8 a9
    refine ⟨⟨by omega, by omega⟩, 360 - (k + 1), by omega, ⟨L2 ++ [ep2, es2], ro⟩, Gh.drop (by simp), k + 1, by omega, by omega, rfl, L2, ep2, es2, f2, hh2, po2, st2, rfl, a1, a2, a3, ?_, ?_, a6, ?_, by omega, a9⟩
    · exact a4.mono (by omega)
    · exact a5.mono (by omega)
    · intro h
      by_cases h2 : 280 ≤ k
      · exact a7 h2
      · rw [show k + 1 = 280 by omega]; exact Qt.start hn hn4
  refine join_and ?_
  refine ⟨fun x h => h = ⟨L ++ [ep, es, er], ro⟩ ∧ ∃ ys, (∀ own, er ∈ own → RdSl ⟨own, ro⟩ x (ints ys)) ∧ (280 ≤ k → ys = [((k % n : Nat) : Int)]), VIf_dec (fun hc => ?_) (fun hc => ?_), ?_⟩
  · refine RdRowsOf.idx (h := ⟨L ++ [ep, es, er], ro⟩) hr (by omega) (by omega) (fun t ys hy _ => gi ⟨rfl, ys, fun own _ => ?_, fun h => by omega⟩)
    exact hr.2 (t, ys) (List.mem_of_getElem? hy)
  · refine gi ⟨rfl, [((k % n : Nat) : Int)], fun own ho => ?_, fun _ => rfl⟩
    exact RdSl.row (n := 1) (vs := ints [((k % n : Nat) : Int)]) (e := er) ho (by rw [her]) (by rw [her]; rfl)
  rintro _ l _ ⟨rfl, ys, hys, hyk⟩
  have hyl : l.len = ys.length := by have := (hys [er] (by simp)).len; rwa [ints_length] at this
  have rd : ∀ {L2 : List Ent}, RdSl ⟨L2 ++ [ep, es, er], ro⟩ l (ints ys) := hys _ (by simp)
  refine join_bk (h := ⟨L ++ [ep, es, er], ro⟩) (((l.len : Nat) : Int) == 2 && decide ((k : Int) < 280)) ?_ (VIf_eq (fun h => gi ⟨rfl, by simp [h]⟩) (fun h => gi ⟨rfl, by simp [h]⟩))
  refine ⟨fun nx ps2 h => ∃ L2 hh2, h = ⟨L2 ++ [ep, es, er], ro⟩ ∧ DqAt p n f hh2 L2 ∧ Bnd (1000 + (k : Int)) hh2 ∧ DS n f hh2 po stl pushed nx ps2 ∧ (280 ≤ k → hh2 = hh) ∧ nx ≤ k + 1 ∧ nx ≤ 280, VIf_b (fun hb => ?_) (fun hb => gi ⟨L, hh, rfl, hs, bh, hD, fun _ => rfl, by omega, n2⟩), ?_⟩
  · simp only [Bool.and_eq_true, beq_iff_eq, decide_eq_true_eq] at hb
    obtain ⟨hb2, hb3⟩ := hb
    have hk280 : k < 280 := by omega
    obtain ⟨y0, y1, rfl⟩ : ∃ y0 y1, ys = [y0, y1] := len_two (by omega)
    have same : ∃ h2, Gh ⟨L ++ [ep, es, er], ro⟩ h2 ∧ ∃ L2 hh2, h2 = ⟨L2 ++ [ep, es, er], ro⟩ ∧ DqAt p n f hh2 L2 ∧ Bnd (1000 + (k : Int)) hh2 ∧ DS n f hh2 po stl pushed next ps ∧ (280 ≤ k → hh2 = hh) ∧ next ≤ k + 1 ∧ next ≤ 280 := gi ⟨L, hh, rfl, hs, bh, hD, fun _ => rfl, by omega, n2⟩
    have hnx := hD.next
    refine join_bk (h := ⟨L ++ [ep, es, er], ro⟩) ((y0 == 0) && decide (y1 ≥ 0)) ?_ (rd.idx (by omega) (by omega) (fun x hx => ?_))
    rotate_left
    · simp only [Int.toNat_zero, List.getElem?_cons_zero, Option.some.injEq] at hx
      subst hx
      refine VIf_eq (fun h0 => rd.idx (by omega) (by omega) (fun x hx => ?_)) (fun h0 => gi ⟨rfl, by simp [h0]⟩)
      have hx : y1 = x := by simpa using hx
      subst hx
      exact gi ⟨rfl, by simp [h0]⟩
    refine VIf_b (fun hb => ?_) (fun hb => ?_)
    · refine dq_push_c [] [ep, es, er] rfl hs (fun L1 h1 => ⟨_, rfl, ?_⟩)
      by_cases hz : hh (0 * 4) = 0
      · have e1 : dPush hh next = (dBegin hh 0 1 next, 0) := by unfold dPush; rw [if_neg (fun h => h ⟨by omega, by omega⟩), if_neg (fun h => h hz)]
        rw [e1] at h1 ⊢
        exact VIf_err (fun _ => ⟨⟨by omega, by omega⟩, gi ⟨L1, _, rfl, h1, bh.begin (by omega) (by omega) (by omega), hD.push hz, fun h => by omega, by omega, by omega⟩⟩) (fun h => absurd rfl h)
      · have e1 : dPush hh next = (hh, 7) := by unfold dPush; rw [if_neg (fun h => h ⟨by omega, by omega⟩), if_pos hz]
        rw [e1] at h1 ⊢
        exact VIf_err (fun h => absurd (show (7 : Int) = 0 from h) (by decide)) (fun _ => gi ⟨L1, hh, rfl, h1, bh, hD, fun _ => rfl, by omega, n2⟩)
    · refine rd.idx (by omega) (by omega) (fun x hx => ?_)
      simp only [Int.toNat_zero, List.getElem?_cons_zero, Option.some.injEq] at hx
      subst hx
      refine VIf_eq (fun h0 => ?_) (fun h0 => rd.idx (by omega) (by omega) (fun x hx => ?_))
      · refine dq_pop_c [] [ep, es, er] rfl hs (fun L1 h1 => ⟨_, rfl, ?_⟩)
        by_cases hz : hh (0 * 4) = 0
        · have e1 : dPop hh = (dBegin hh 0 4 0, 0) := by unfold dPop; rw [if_neg (fun h => h hz)]
          rw [e1] at h1 ⊢
          exact VIf_err (fun _ => gi ⟨L1, _, rfl, h1, bh.begin (by omega) (by omega) (by omega), hD.pop hz, fun h => by omega, by omega, by omega⟩) (fun h => absurd rfl h)
        · have e1 : dPop hh = (hh, 7) := by unfold dPop; rw [if_pos hz]
          rw [e1] at h1 ⊢
          exact VIf_err (fun h => absurd (show (7 : Int) = 0 from h) (by decide)) (fun _ => gi ⟨L1, hh, rfl, h1, bh, hD, fun _ => rfl, by omega, n2⟩)
      · simp only [Int.toNat_zero, List.getElem?_cons_zero, Option.some.injEq] at hx
        subst hx
        refine dq_steal_c [] [ep, es, er] rfl hs (fun L1 h1 => ⟨_, rfl, ?_⟩)
        unfold dSteal at h1
        by_cases c1 : ¬ (1 ≤ y0 ∧ y0 ≤ (n : Int) - 1)
        · rw [if_pos c1] at h1
          exact gi ⟨L1, hh, rfl, h1, bh, hD, fun _ => rfl, by omega, n2⟩
        · rw [if_neg c1] at h1
          by_cases c2 : hh (y0.toNat * 4) ≠ 0
          · rw [if_pos c2] at h1
            exact gi ⟨L1, hh, rfl, h1, bh, hD, fun _ => rfl, by omega, n2⟩
          · rw [if_neg c2] at h1
            exact gi ⟨L1, _, rfl, h1, bh.begin (by omega) (by omega) (by omega), hD.steals (by omega), fun h => by omega, by omega, n2⟩
  rintro _ nx ps2 _ ⟨L2, hh2, rfl, hs3, bh2, hD2, hk2, m1, m2⟩
  refine VIf_eq (fun hl1 => ?_) (fun hl1 => ?_)
  rotate_left
  · exact nxt hs3 hp hs2 (bf.mono (by omega)) (bh2.mono (by omega)) hD2 (fun h => by rw [hyk h] at hyl; simp at hyl; omega) m1 m2
  obtain ⟨y0, rfl⟩ : ∃ y0, ys = [y0] := List.length_eq_one_iff.1 (by omega)
  have hlens := hD2.lens
  have hnx := hD2.next
  have hpl := hp.sl_len
  have hsl := hs2.sl_len
  rw [ints_length] at hpl hsl
  refine rd.idx (by omega) (by omega) (fun x hx => ?_)
  simp only [Int.toNat_zero, List.getElem?_cons_zero, Option.some.injEq] at hx
  subst hx
  by_cases hq : 0 ≤ y0 ∧ y0 ≤ (n : Int) - 1
  rotate_left
  · refine dq_out_c hs3 (fun _ h => by simp [h]) hq ⟨_, _, _, rfl, ?_⟩
    refine join_bk (h := ⟨L2 ++ [ep, es, er], ro⟩) true ?_ (VIf_nerr (fun _ => gi ⟨rfl, rfl⟩) (fun h => absurd h (by decide)))
    refine VIf_b (fun _ => nxt hs3 hp hs2 (bf.mono (by omega)) (bh2.mono (by omega)) hD2 (fun h => ?_) m1 m2) (nomatch ·)
    have := hyk h
    simp only [List.cons.injEq, and_true] at this
    have := Nat.mod_lt k hn
    omega
  obtain ⟨q, rfl⟩ : ∃ q : Nat, y0 = (q : Int) := ⟨y0.toNat, by omega⟩
  have hqn : q < n := by omega
  have hz : (((q : Int) == 0) = true) = (q = 0) := by simp
  have hQ2 : ∀ {hh3 : Nat → Int}, Oth q hh2 hh3 → (hh3 (q * 4) = 0 ∨ rk (hh3 (q * 4)) + 1 ≤ rk (hh2 (q * 4))) → 280 ≤ k → Qt n (k + 1) hh3 := fun {hh3} o hr h => by
    have h3 := hyk h
    simp only [List.cons.injEq, and_true] at h3
    have : q = k % n := by omega
    rw [hk2 h] at o hr
    rw [this] at o hr
    exact (hQ h).next hn hn4 o hr
  refine dq_step_c (q := q) [] [ep, es, er] rfl hs3 hqn (hD2.ok hqn bf bh2 (by omega)) (fun L3 h3 => ⟨_, _, _, rfl, ?_⟩)
  obtain ⟨f3, hh3, d, g, er2, he⟩ : ∃ f3 hh3 d g er2, dStepE f hh2 q = (f3, hh3, d, g, er2) := ⟨_, _, _, _, _, rfl⟩
  obtain ⟨o3, r3⟩ := rk_step (hD2.at hqn) he
  obtain ⟨b3, b4⟩ := bf.step bh2 (by omega) he
  have hO := ds_step hqn hD2 he
  have hQ3 := hQ2 o3 r3
  rw [he] at h3 ⊢
  dsimp only at h3 ⊢
  refine join_bk (h := ⟨[] ++ (L3 ++ [ep, es, er]), ro⟩) (decide (er2 ≠ 0) || !d) ?_ (VIf_nerr (fun hk => gi ⟨rfl, by simp [hk]⟩) (fun hk => gi ⟨rfl, by simp [hk]⟩))
  rcases hO with ⟨rfl, hD3⟩ | ⟨rfl, rfl, rfl, rfl, hO⟩ | ⟨rfl, rfl, rfl, rfl, hO⟩ | ⟨rfl, rfl, hq0, hO⟩
  · refine VIf_b (fun _ => nxt h3 hp hs2 b3 b4 hD3 hQ3 m1 m2) (fun h => by simp at h)
  · refine VIf_b (nomatch ·) (fun _ => ?_)
    refine join_bk (h := ⟨[] ++ (L3 ++ [ep, es, er]), ro⟩) true ?_ (rd.idx (by omega) (by omega) (fun x hx => ?_))
    rotate_left
    · simp only [Int.toNat_zero, List.getElem?_cons_zero, Option.some.injEq] at hx
      subst hx
      exact VIf_eq (fun _ => gi ⟨rfl, rfl⟩) (fun h => absurd rfl h)
    refine VIf_b (fun _ => VIf_eq (fun hg => ?_) (fun hg => ?_)) (nomatch ·)
    · rcases hO with ⟨_, hD3⟩ | ⟨hg2, _⟩
      · exact ⟨⟨by omega, by omega⟩, nxt h3 hp hs2 b3 b4 hD3 hQ3 (by omega) (by omega)⟩
      · exact absurd hg hg2
    · rcases hO with ⟨hg2, _⟩ | ⟨_, hD3⟩
      · exact absurd hg2 hg
      · exact ⟨⟨by omega, by omega⟩, nxt h3 hp hs2 b3 b4 hD3 hQ3 m1 m2⟩
  · refine VIf_b (nomatch ·) (fun _ => ?_)
    refine join_bk (h := ⟨[] ++ (L3 ++ [ep, es, er]), ro⟩) false ?_ (rd.idx (by omega) (by omega) (fun x hx => ?_))
    rotate_left
    · simp only [Int.toNat_zero, List.getElem?_cons_zero, Option.some.injEq] at hx
      subst hx
      exact VIf_eq (fun _ => gi ⟨rfl, rfl⟩) (fun h => absurd rfl h)
    refine VIf_b (nomatch ·) (fun _ => ?_)
    refine join_bk (h := ⟨[] ++ (L3 ++ [ep, es, er]), ro⟩) (decide (g ≥ 0)) ?_ (rd.idx (by omega) (by omega) (fun x hx => ?_))
    rotate_left
    · simp only [Int.toNat_zero, List.getElem?_cons_zero, Option.some.injEq] at hx
      subst hx
      exact VIf_eq (fun _ => gi ⟨rfl, rfl⟩) (fun h => absurd rfl h)
    refine VIf_dec (fun hg => ?_) (fun hg => ?_)
    · rcases hO with ⟨_, hD3⟩ | ⟨hg2, _⟩
      · refine app_row grows_ints (vs := [.int .i64 g]) rfl ⟨rfl, trivial⟩ L3 ep [es, er] (by simp) hp (by omega) (fun s2 e2 o2 l2 => ?_)
        exact nxt h3 (po2 := po ++ [g]) (by simpa [ints, intV] using o2) hs2 b3 b4 hD3 hQ3 m1 m2
      · exact absurd hg2 (by omega)
    · rcases hO with ⟨hg2, _⟩ | ⟨_, hD3⟩
      · exact absurd hg2 hg
      · exact VIf_dec (fun h => absurd h hg) (fun _ => nxt h3 hp hs2 b3 b4 hD3 hQ3 m1 m2)
  · have hqz : ((q : Int) == 0) = false := by simp [hq0]
    refine VIf_b (nomatch ·) (fun _ => ?_)
    refine join_bk (h := ⟨[] ++ (L3 ++ [ep, es, er]), ro⟩) false ?_ (rd.idx (by omega) (by omega) (fun x hx => ?_))
    rotate_left
    · simp only [Int.toNat_zero, List.getElem?_cons_zero, Option.some.injEq] at hx
      subst hx
      exact VIf_eq (fun h => absurd h (by omega)) (fun _ => gi ⟨rfl, rfl⟩)
    refine VIf_b (nomatch ·) (fun _ => ?_)
    refine join_bk (h := ⟨[] ++ (L3 ++ [ep, es, er]), ro⟩) false ?_ (rd.idx (by omega) (by omega) (fun x hx => ?_))
    rotate_left
    · simp only [Int.toNat_zero, List.getElem?_cons_zero, Option.some.injEq] at hx
      subst hx
      exact VIf_eq (fun h => absurd h (by omega)) (fun _ => gi ⟨rfl, rfl⟩)
    refine VIf_b (nomatch ·) (fun _ => ?_)
    refine VIf_dec (fun hg => ?_) (fun hg => ?_)
    · rcases hO with ⟨_, hD3⟩ | ⟨hg2, _⟩
      · refine app_row grows_ints (vs := [.int .i64 g]) rfl ⟨rfl, trivial⟩ (L3 ++ [ep]) es [er] (by simp) hs2 (by omega) (fun s2 e2 o2 l2 => ?_)
        have := nxt h3 (st2 := stl ++ [g]) hp (by simpa [ints, intV] using o2) b3 b4 hD3 hQ3 m1 m2
        simpa using this
      · exact absurd hg2 (by omega)
    · rcases hO with ⟨hg2, _⟩ | ⟨_, hD3⟩
      · exact absurd hg2 hg
      · exact nxt h3 hp hs2 b3 b4 hD3 hQ3 m1 m2
end Go.Proofs.Ytiaopgnnibidlaa
