import Derived.Test.YtockhbbpcbcenaaUn
namespace Go.Proofs.Ytockhbbpcbcenaa
open Go.Eng
set_option maxRecDepth 20000
theorem univ_step_c {p : Nat} {u : Univ} {q : Int} {L own : List Ent} {ro : Addr → Option Value} {post : Value → H → Prop} (A C : List Ent) (hown : own = A ++ (L ++ C)) (hs : UnivAt p u L) (hu : UOk u)
    (hk : ∀ L', UnivAt p (univStep u q).1 L' → post (.tuple (List.toArray [.bool (univStep u q).2.1, .int .i64 (univStep u q).2.2.1, errV (eno 65 (univStep u q).2.2.2)])) ⟨A ++ (L' ++ C), ro⟩) :
    SemCall Try.prog 21 (List.toArray [.pointer (some (Addr.mk p 0 none)), .int .i64 q]) ⟨own, ro⟩ post := by
  refine lift A C hown (Q := fun L' => UnivAt p (univStep u q).1 L') ?_ hk
  clear hk hown post
  intro post hk
  refine f21_call _ _ _ post ?_
  obtain ⟨n4, d40, da, hh4⟩ := hu
  obtain ⟨bc, bh, n, s, e, c1, c2, rfl, ho, hn, hc⟩ := hs
  have hsl := ho.rows_len deedV_len (by decide)
  simp only [f21_sem, add_mk', Option.some.injEq, exists_eq_left', Nat.zero_add, Nat.add_zero]
  refine ⟨⟨some (Addr.mk bh 0 none), n, n⟩, rdo _ (.head _) rfl rfl, ⟨by dsimp only; omega, by dsimp only; omega⟩, within_i (fun hx => ⟨_, rfl, VIf_nb (fun _ => ?_) (nomatch ·)⟩) (fun x1 x2 => ⟨_, rfl, VIf_nb (nomatch ·) (fun _ => ?_)⟩)⟩
  · rw [univStep, if_pos (by rw [hn]; exact hx)] at hk
    exact ret (hk _ ⟨bc, bh, n, s, e, c1, c2, rfl, ho, hn, hc⟩)
  dsimp only at x2
  rw [univStep, if_neg (by omega)] at hk
  have hq : q.toNat < u.hands.length := by omega
  obtain ⟨h, hh⟩ : ∃ h, u.hands[q.toNat]? = some h := ⟨_, List.getElem?_eq_getElem hq⟩
  rw [hh] at hk
  simp only at hk
  obtain ⟨g0, g1, g2, g3, g4⟩ := hh4 h (List.mem_of_getElem? hh)
  refine ⟨⟨some (Addr.mk bh 0 none), n, n⟩, rdo _ (.head _) rfl rfl, Addr.mk bh 0 none, rfl, by omega, by simp only; omega, ?_⟩
  simp only [add_mk', Nat.zero_add, Nat.add_zero]
  have rh : ∀ {e1 e2 e3 : Ent} {j : Nat} {v : Value}, (uhandV h)[j]? = some v → H.rd ⟨[e1, e2, e3, ⟨some bh, u.hands.flatMap uhandV, c2⟩], ro⟩ (Addr.mk bh (q.toNat * 4 + j) none) v := fun hj => rd_row uhandV_len ⟨some bh, u.hands.flatMap uhandV, c2⟩ (by simp) rfl rfl hh rfl hj
  refine ⟨h.ln, rh (j := 0) rfl, VIf_eq (fun h0 => ?_) (fun h0 => ?_)⟩
  · rw [if_pos h0] at hk
    exact ret (hk _ ⟨bc, bh, n, s, e, c1, c2, rfl, ho, hn, hc⟩)
  rw [if_neg h0] at hk
  obtain ⟨x, hx⟩ : ∃ x, u.cells[h.cell.toNat]? = some x := ⟨_, List.getElem?_eq_getElem (by omega)⟩
  refine VIf_eq (fun h1 => ?_) (fun h1 => VIf_eq (fun h2 => ?_) (fun h2 => ?_))
  · rw [if_pos h1] at hk
    refine ⟨⟨some (Addr.mk bc 0 none), 41, 41⟩, rdo _ (.head _) rfl rfl, h.cell, rh (j := 2) rfl, Addr.mk bc 0 none, rfl, g0, by dsimp only; omega, h.deed, rh (j := 1) rfl, ?_⟩
    simp only [add_mk', Nat.zero_add, Nat.add_zero, Nat.mul_one]
    refine cas_c [univE p bc bh n s] ⟨some bc, ints u.cells, c1⟩ [e, ⟨some bh, u.hands.flatMap uhandV, c2⟩] rfl rfl (x := x) (by rw [ints_get, hx]; rfl) (fun hz => ⟨_, rfl, ?_⟩) (fun hz => ⟨_, rfl, ?_⟩)
    · refine wr_rows uhandV_len [univE p bc bh n s, _, e] ⟨some bh, u.hands.flatMap uhandV, c2⟩ [] { h with ln := 2 } ⟨rfl, trivial⟩ rfl rfl rfl hh (j := 0) rfl (by simp) rfl (ret (hk _ ⟨bc, bh, n, s, e, c1, c2, ?_, ho, by simpa using hn, ?_⟩))
      · rw [if_pos (by rw [hx, hz])]
        dsimp only
        rw [ints_spl _ _ _ (by omega)]
        rfl
      · rw [if_pos (by rw [hx, hz])]
        simpa using hc
    · refine wr_rows uhandV_len [univE p bc bh n s, _, e] ⟨some bh, u.hands.flatMap uhandV, c2⟩ [] { h with ln := 2 } ⟨rfl, trivial⟩ rfl rfl rfl hh (j := 0) rfl (by simp) rfl (ret (hk _ ⟨bc, bh, n, s, e, c1, c2, ?_, ho, by simpa using hn, ?_⟩))
      · rw [if_neg (by rw [hx]; simpa using hz)]; rfl
      · rw [if_neg (by rw [hx]; simpa using hz)]; exact hc
  · rw [if_neg h1, if_pos h2] at hk
    refine ⟨⟨some (Addr.mk bc 0 none), 41, 41⟩, rdo _ (.head _) rfl rfl, h.cell, rh (j := 2) rfl, Addr.mk bc 0 none, rfl, g0, by dsimp only; omega, ?_⟩
    simp only [add_mk', Nat.zero_add, Nat.add_zero, Nat.mul_one]
    refine ⟨x, rd_ints ⟨some bc, ints u.cells, c1⟩ (by simp) rfl rfl hx, h.deed, rh (j := 1) rfl, VIf_eq (fun hz => ?_) (fun hz => ?_)⟩
    · rw [if_pos (by rw [hx, hz])] at hk
      refine ⟨h.sum, rh (j := 3) rfl, rfl, rfl, ?_⟩
      refine wr_rows uhandV_len [univE p bc bh n s, _, e] ⟨some bh, u.hands.flatMap uhandV, c2⟩ [] ⟨0, 0, 0, 0⟩ ⟨rfl, rfl, rfl, rfl, trivial⟩ rfl rfl rfl hh (j := 0) rfl (by simp) rfl (ret (hk _ ⟨bc, bh, n, s, e, c1, c2, rfl, ho, by simpa using hn, hc⟩))
    · rw [if_neg (by rw [hx]; simpa using hz), hx] at hk
      obtain ⟨k1, k2, k3⟩ := g4 h2 x hx hz
      have hrd : RdRows ⟨[univE p bc bh n s, ⟨some bc, ints u.cells, c1⟩, e, ⟨some bh, u.hands.flatMap uhandV, c2⟩], ro⟩ 2 s (u.deeds.flatMap deedV) := RdRows.of_own (e := e) (by simp) ho
      obtain ⟨b, d, hb, hd, hrow⟩ := hrd.row deedV_len (by decide) (i := x - 1) (by omega) (by omega)
      obtain ⟨d0, d1⟩ := da d (List.mem_of_getElem? hd)
      simp only [Option.getD_some, hd] at hk
      refine ⟨h.sum, rh (j := 3) rfl, s, rdo _ (.head _) rfl rfl, ⟨by omega, by omega⟩, b, hb, by omega, by omega, d.2, ?_, ⟨by omega, by omega⟩, ?_⟩
      · rw [add_zero']; exact hrow 1 _ rfl
      refine wr_rows uhandV_len [univE p bc bh n s, _, e] ⟨some bh, u.hands.flatMap uhandV, c2⟩ [] { h with sum := h.sum + d.2 } ⟨rfl, trivial⟩ rfl rfl rfl hh (j := 3) rfl (by simp) rfl ?_
      have hq2 : ∀ {y : UHand}, (u.hands.set q.toNat y)[q.toNat]? = some y := fun {y} => List.getElem?_set_self hq
      refine ⟨h.cell, rd_row uhandV_len ⟨some bh, _, c2⟩ (.tail _ (.tail _ (.tail _ (.head _)))) rfl rfl hq2 (j := 2) rfl rfl, ⟨by omega, by omega⟩, ?_⟩
      refine wr_rows uhandV_len [univE p bc bh n s, _, e] ⟨some bh, _, c2⟩ [] { h with sum := h.sum + d.2, cell := h.cell + 1 } ⟨rfl, trivial⟩ rfl rfl rfl hq2 (j := 2) rfl (by simp) rfl ?_
      rw [List.set_set]
      refine wr_rows uhandV_len [univE p bc bh n s, _, e] ⟨some bh, _, c2⟩ [] ⟨1, h.deed, h.cell + 1, h.sum + d.2⟩ ⟨rfl, trivial⟩ rfl rfl rfl hq2 (j := 0) rfl (by simp) rfl ?_
      rw [List.set_set]
      exact ret (hk _ ⟨bc, bh, n, s, e, c1, c2, rfl, ho, by simpa using hn, hc⟩)
  · rw [if_neg h1, if_neg h2] at hk
    exact ret (hk _ ⟨bc, bh, n, s, e, c1, c2, rfl, ho, hn, hc⟩)

/-- the cells that are decided, up to the first that is not -/
def univOrder : List Int → List Int
  | [] => []
  | x :: l => if x = 0 then [] else (x - 1) :: univOrder l
theorem univOrder_len : ∀ l : List Int, (univOrder l).length ≤ l.length
  | [] => by simp [univOrder]
  | x :: l => by have := univOrder_len l; unfold univOrder; split <;> simp; omega
theorem univ_order_c {p : Nat} {u : Univ} {L own : List Ent} {ro : Addr → Option Value} {post : Value → H → Prop} (hs : UnivAt p u L) (hL : ∀ e ∈ L, e ∈ own) (hb : ∀ x ∈ u.cells, 0 ≤ x ∧ x ≤ 1000)
    (hk : ∀ (s' : SV) (e' : Ent), OwnsSl 1 s' e' (ints (univOrder u.cells)) → post (.slice s'.a s'.len s'.cap) ⟨own ++ [e'], ro⟩) :
    SemCall Try.prog 23 (List.toArray [.pointer (some (Addr.mk p 0 none))]) ⟨own, ro⟩ post := by
  refine f23_call _ _ post ?_
  obtain ⟨bc, bh, n, s, e, c1, c2, rfl, ho, hn, hc⟩ := hs
  simp only [f23_sem, f23_L1, add_mk', Option.some.injEq, exists_eq_left', Nat.zero_add, Nat.add_zero]
  refine ⟨⟨some (Addr.mk bc 0 none), 41, 41⟩, rdo _ (hL _ (.head _)) rfl rfl, ?_⟩
  refine ⟨fun o h => ∃ e', h = ⟨own ++ [e'], ro⟩ ∧ OwnsSl 1 o e' (ints (univOrder u.cells)), ⟨fun n o i h => ∃ (e' : Ent) (k : Nat) (pre : List Int), h = ⟨own ++ [e'], ro⟩ ∧ OwnsSl 1 o e' (ints pre) ∧ univOrder u.cells = pre ++ univOrder (u.cells.drop k) ∧ pre.length = k ∧ i = k ∧ k ≤ 41 ∧ n = 41 - k,
    ⟨41, ⟨own ++ [⟨none, [], 0⟩], ro⟩, by simpa using Gh.phantom own [] ro 0, _, 0, [], rfl, OwnsSl.nil 1, rfl, rfl, rfl, by omega, rfl⟩, ?_⟩, ?_⟩
  · rintro n _ o i h ⟨e', k, pre, rfl, ho', hpre, hpl, rfl, hk1, rfl⟩
    refine VIf_dec (fun hx => ?_) (fun hx => ?_)
    · dsimp only at hx
      have hkl : k < u.cells.length := by omega
      have hr : RdSl ⟨own ++ [e'], ro⟩ ⟨some (Addr.mk bc 0 none), 41, 41⟩ (ints u.cells) := RdSl.at0 ⟨some bc, ints u.cells, c1⟩ (List.mem_append_left _ (hL _ (by simp))) rfl rfl hc.symm
      refine hr.idx (i := (k : Int)) (by omega) (by dsimp only; omega) fun x hx => ?_
      have hx : u.cells[k]? = some x := hx
      obtain ⟨x0, x1⟩ := hb x (List.mem_of_getElem? hx)
      have hdrop : u.cells.drop k = x :: u.cells.drop (k + 1) := by
        rw [List.drop_eq_getElem_cons hkl]
        rw [List.getElem?_eq_getElem hkl] at hx
        cases hx; rfl
      rw [hdrop] at hpre
      refine VIf_eq (fun hz => gi ⟨e', rfl, ?_⟩) (fun hz => ⟨⟨by omega, by omega⟩, ?_⟩)
      · rw [hpre, univOrder, if_pos hz, List.append_nil]; exact ho'
      · have hol := ho'.sl_len
        rw [ints_length] at hol
        refine app_row grows_ints (vs := [.int .i64 (x - 1)]) rfl ⟨rfl, trivial⟩ own e' [] rfl ho' (by omega) (fun s' e2 o2 _ => ?_)
        refine ⟨⟨by omega, by omega⟩, 41 - (k + 1), by omega, gi ⟨e2, k + 1, pre ++ [x - 1], rfl, by simpa [ints, intV] using o2, ?_, by simp [hpl], by omega, by omega, rfl⟩⟩
        rw [hpre, univOrder, if_neg hz]; simp
    · dsimp only at hx
      refine gi ⟨e', rfl, ?_⟩
      rw [hpre, List.drop_of_length_le (by omega)]
      simpa [univOrder] using ho'
  · rintro _ o h ⟨e', rfl, ho'⟩
    have hol := ho'.sl_len
    rw [ints_length] at hol
    have := univOrder_len u.cells
    refine clone_c (RdSl.of_own (e := e') (by simp) ho') (by omega) (fun s2 e2 o2 => ⟨s2, rfl, ⟨⟨own ++ [e2], ro⟩, Gh.drop (by simp), hk s2 e2 o2⟩⟩)
end Go.Proofs.Ytockhbbpcbcenaa
