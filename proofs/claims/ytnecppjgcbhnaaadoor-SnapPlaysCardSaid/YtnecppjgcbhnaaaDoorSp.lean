import Derived.Test.YtnecppjgcbhnaaaDoorSo
namespace Go.Proofs.YtnecppjgcbhnaaaDoor
open Go.Eng
set_option maxRecDepth 20000
def snapSaw (b : Board) (q : Nat) (h : SHand) (seen : List Int) : Board × Bool × List Int × Int :=
  if h.writes = true then ({ b with hands := b.hands.set q { h with ln := 3, moved := seen } }, false, [], 0) else ({ b with hands := b.hands.set q shand0 }, true, seen, 0)
/-- what Step does -/
def snapStep (b : Board) (p : Int) : Board × Bool × List Int × Int :=
  if ¬ (0 ≤ p ∧ p ≤ (b.hands.length : Int) - 1) then (b, false, [], 1)
  else match b.hands[p.toNat]? with
    | none => (b, false, [], 1)
    | some h =>
      if h.ln = 0 then (b, false, [], 7)
      else if h.ln = 1 then
        (if h.k + 1 = b.words.length then ({ b with hands := b.hands.set p.toNat { h with ln := 2, k := 0, first := h.first ++ [(b.words[h.k.toNat]?).getD ⟨0, 0, []⟩] } }, false, [], 0)
        else ({ b with hands := b.hands.set p.toNat { h with k := h.k + 1, first := h.first ++ [(b.words[h.k.toNat]?).getD ⟨0, 0, []⟩] } }, false, [], 0))
      else if h.ln = 2 then
        (if h.k + 1 = b.words.length then
          (if (seesGo h.first (h.last ++ [(b.words[h.k.toNat]?).getD ⟨0, 0, []⟩]) 0 h.moved [] true).2.1 = true then
            snapSaw b p.toNat { h with k := 0, last := h.last ++ [(b.words[h.k.toNat]?).getD ⟨0, 0, []⟩], moved := (seesGo h.first (h.last ++ [(b.words[h.k.toNat]?).getD ⟨0, 0, []⟩]) 0 h.moved [] true).2.2 } (seesGo h.first (h.last ++ [(b.words[h.k.toNat]?).getD ⟨0, 0, []⟩]) 0 h.moved [] true).1
          else ({ b with hands := b.hands.set p.toNat { h with k := 0, first := h.last ++ [(b.words[h.k.toNat]?).getD ⟨0, 0, []⟩], last := [], moved := (seesGo h.first (h.last ++ [(b.words[h.k.toNat]?).getD ⟨0, 0, []⟩]) 0 h.moved [] true).2.2 } }, false, [], 0))
        else ({ b with hands := b.hands.set p.toNat { h with k := h.k + 1, last := h.last ++ [(b.words[h.k.toNat]?).getD ⟨0, 0, []⟩] } }, false, [], 0))
      else if h.ln = 3 then ({ words := b.words.set p.toNat ⟨h.value, ((b.words[p.toNat]?).getD ⟨0, 0, []⟩).turn + 1, h.moved⟩, hands := b.hands.set p.toNat shand0 }, true, [], 0)
      else (b, false, [], 0)
theorem flat_set {α : Type} {f : α → List Value} {l : List α} {i : Nat} {x y : α} (h : f x = f y) : (l.set i x).flatMap f = (l.set i y).flatMap f := by
  rw [List.flatMap_def, List.flatMap_def, List.map_set, List.map_set, h]
structure SHok (n : Nat) (h : SHand) : Prop where
  a1 : h.ln = 1 → 0 ≤ h.k ∧ h.k < n ∧ h.first.length = h.k.toNat
  a2 : h.ln = 2 → 0 ≤ h.k ∧ h.k < n ∧ h.first.length = n ∧ h.last.length = h.k.toNat ∧ h.moved.length = n ∧ ∀ x ∈ h.moved, 0 ≤ x ∧ x ≤ 1
  a3 : h.ln = 3 → h.moved.length ≤ 4
structure BOk (b : Board) : Prop where
  n : b.words.length = b.hands.length
  w : ∀ w ∈ b.words, 0 ≤ w.turn ∧ w.turn ≤ 1000000
  h : ∀ h ∈ b.hands, SHok b.hands.length h
theorem snap_step_c {p : Nat} {b : Board} {q : Int} {L own : List Ent} {ro : Addr → Option Value} {post : Value → H → Prop} (A C : List Ent) (hown : own = A ++ (L ++ C)) (hs : BoardAt p b L ro) (hb : BOk b)
    (hk : ∀ L' s' e' ro', (∀ a v, ro a = some v → ro' a = some v) → BoardAt p (snapStep b q).1 L' ro' → OwnsSl 1 s' e' (ints (snapStep b q).2.2.1) →
      post (.tuple (List.toArray [.bool (snapStep b q).2.1, .slice s'.a s'.len s'.cap, errV (eno 79 (snapStep b q).2.2.2)])) ⟨A ++ ((L' ++ [e']) ++ C), ro'⟩) :
    SemCall Tryd.prog 32 (List.toArray [.pointer (some (Addr.mk p 0 none)), .int .i64 q]) ⟨own, ro⟩ post := by
  refine lift3 A C hown (Q := fun v L2 ro' => ∃ L' s' e', L2 = L' ++ [e'] ∧ v = .tuple (List.toArray [.bool (snapStep b q).2.1, .slice s'.a s'.len s'.cap, errV (eno 79 (snapStep b q).2.2.2)]) ∧ BoardAt p (snapStep b q).1 L' ro' ∧ OwnsSl 1 s' e' (ints (snapStep b q).2.2.1)) ?_
    (by rintro v L2 ro' hm ⟨L', s', e', rfl, rfl, h1, h2⟩; exact hk L' s' e' ro' hm h1 h2)
  clear hk hown post
  intro post hk0
  have hk : ∀ r : Board × Bool × List Int × Int, snapStep b q = r → ∀ L' s' e' ro', (∀ a v, ro a = some v → ro' a = some v) → BoardAt p r.1 L' ro' → OwnsSl 1 s' e' (ints r.2.2.1) → post (.tuple (List.toArray [.bool r.2.1, .slice s'.a s'.len s'.cap, errV (eno 79 r.2.2.2)])) ⟨L' ++ [e'], ro'⟩ := by
    rintro r rfl L' s' e' ro' hm h1 h2
    exact hk0 _ _ _ hm ⟨L', s', e', rfl, rfl, h1, h2⟩
  clear hk0
  refine SemCall.apart (fun hap => f32_call _ _ _ post ?_)
  have hs' := hs
  obtain ⟨bn, bwt, bhok⟩ := hb
  obtain ⟨bw, bh, n, c1, c2, ws, cs, rfl, hwd, hhd, hwl, hcl, n4, hwo, hco⟩ := hs
  have hbl : b.hands.length = n := by rw [hhd]; simpa using hcl
  have hbw : b.words.length = n := by rw [hwd]; simpa using hwl
  simp only [f32_sem, f32_J1, f32_J2, add_mk', Option.some.injEq, exists_eq_left', Nat.zero_add, Nat.add_zero]
  have mB : ∀ {X : List Ent}, boardE p bw bh n ∈ boardL p bw bh n c1 c2 ws cs ++ X := by intro X; simp [boardL]
  have nil : ∀ {o : List Ent}, Gh ⟨o, ro⟩ ⟨o ++ [⟨none, [], 0⟩], ro⟩ := by intro o; simpa using Gh.phantom o [] ro 0
  refine ⟨⟨some (Addr.mk bh 0 none), n, n⟩, rdo (boardE p bw bh n) (by simp [boardL]) rfl rfl, ⟨by dsimp only; omega, by dsimp only; omega⟩, within_i (fun hx => ⟨_, rfl, VIf_nb (fun _ => ?_) (nomatch ·)⟩) (fun x1 x2 => ⟨_, rfl, VIf_nb (nomatch ·) (fun _ => ?_)⟩)⟩
  · exact ⟨_, nil, hk (b, false, [], 1) (by rw [snapStep, if_pos (by rw [hbl]; exact hx)]) _ ⟨none, 0, 0⟩ _ ro (fun _ _ h => h) hs' (OwnsSl.nil 1)⟩
  dsimp only at x2
  have hst : ¬ ¬ (0 ≤ q ∧ q ≤ (b.hands.length : Int) - 1) := by omega
  have hq : q.toNat < cs.length := by omega
  obtain ⟨c, hc⟩ : ∃ c, cs[q.toNat]? = some c := ⟨_, List.getElem?_eq_getElem hq⟩
  have hbq : b.hands[q.toNat]? = some (HC.abs c) := by rw [hhd, List.getElem?_map, hc]; rfl
  have hcok := hco c (List.mem_of_getElem? hc)
  obtain ⟨a1, a2, a3⟩ := bhok _ (List.mem_of_getElem? hbq)
  rw [hbl] at a1 a2
  obtain ⟨r0, hr0⟩ : ∃ r, snapStep b q = r := ⟨_, rfl⟩
  have hsp := hr0
  rw [snapStep, if_neg hst, hbq] at hsp
  dsimp only at hsp
  have eln : (HC.abs c).ln = c.ln := rfl
  have ek : (HC.abs c).k = c.k := rfl
  refine ⟨⟨some (Addr.mk bh 0 none), n, n⟩, rdo (boardE p bw bh n) (by simp [boardL]) rfl rfl, Addr.mk bh 0 none, rfl, by omega, by simp only; omega, ?_⟩
  simp only [add_mk', Nat.zero_add, Nat.add_zero]
  refine ⟨c.ln, rd_row hcV_len ⟨some bh, cs.flatMap hcV, c2⟩ (by simp [boardL]) rfl rfl hc (j := 0) rfl rfl, VIf_eq (fun h0 => ?_) (fun h0 => ?_)⟩
  · rw [if_pos (by rw [eln]; exact h0)] at hsp
    subst hsp
    exact ⟨_, nil, hk _ hr0 _ ⟨none, 0, 0⟩ _ ro (fun _ _ h => h) hs' (OwnsSl.nil 1)⟩
  rw [if_neg (by rw [eln]; exact h0)] at hsp
  -- the shape of the board around the hand
  have hsh := boardL_at (p := p) (bw := bw) (bh := bh) (n := n) (c1 := c1) (c2 := c2) (ws := ws) hc
  have hset := fun (wz : List CW) (c' : HC) => boardL_set (p := p) (bw := bw) (bh := bh) (n := n) (c1 := c1) (c2 := c2) (ws := wz) (c := c') hq
  generalize hT : (cs.take q.toNat).flatMap HC.ents = T at hsh hset
  generalize hD : (cs.drop (q.toNat + 1)).flatMap HC.ents = D at hsh hset
  rw [hsh] at hap ⊢
  have fin : ∀ (ro' : Addr → Option Value) (ws' : List CW) (y c' : HC), hcV c' = hcV y → (∀ a v, ro a = some v → ro' a = some v) → ws'.length = n → (∀ w ∈ ws', CW.ok ro' w) → HC.ok ro' c' →
      BoardAt p ⟨ws'.map (·.1), b.hands.set q.toNat c'.abs⟩ ([boardE p bw bh n, ⟨some bw, ws'.flatMap cwV, c1⟩, ⟨some bh, (cs.set q.toNat y).flatMap hcV, c2⟩] ++ T ++ ([c'.ef, c'.el, c'.em] ++ D)) ro' := by
    intro ro' ws' y c' hyc hm w1 w2 hc'
    rw [← flat_set hyc]
    refine ⟨bw, bh, n, c1, c2, ws', cs.set q.toNat c', (hset ws' c').symm, rfl, ?_, w1, by simpa using hcl, n4, w2, fun y hy => ?_⟩
    · rw [hhd, List.map_set]
    · rcases mem_set_cases hy with rfl | ⟨j, _, hj⟩
      · exact hc'
      · exact (hco y (List.mem_of_getElem? hj)).up hm
  clear hset mB
  have hset1 : ∀ {y : HC}, (cs.set q.toNat y)[q.toNat]? = some y := fun {y} => List.getElem?_set_self hq
  -- reads
  have rB : ∀ {W Hc : List Value} {X : List Ent} {j : Nat} {v : Value}, (boardE p bw bh n).cells[j]? = some v → H.rd ⟨[boardE p bw bh n, ⟨some bw, W, c1⟩, ⟨some bh, Hc, c2⟩] ++ T ++ X, ro⟩ (Addr.mk p j none) v := fun hj => rdo _ (by simp) rfl hj
  have rH : ∀ {W : List Value} {X : List Ent} {y : HC} {l : List HC} {j : Nat} {v : Value}, l[q.toNat]? = some y → (hcV y)[j]? = some v → H.rd ⟨[boardE p bw bh n, ⟨some bw, W, c1⟩, ⟨some bh, l.flatMap hcV, c2⟩] ++ T ++ X, ro⟩ (Addr.mk bh (q.toNat * 7 + j) none) v := fun hy hj => rd_row hcV_len ⟨some bh, _, c2⟩ (List.mem_append_left _ (List.mem_append_left _ (.tail _ (.tail _ (.head _))))) rfl rfl hy rfl hj
  refine VIf_eq (fun h1 => ?_) (fun h1 => VIf_eq (fun h2 => ?_) (fun h2 => VIf_eq (fun h3 => ?_) (fun h3 => ?_)))
  · -- the first words
    obtain ⟨k0, k1, kf⟩ := a1 h1
    rw [ek] at k0 k1 kf
    have hkw : c.k.toNat < ws.length := by omega
    obtain ⟨w, hw⟩ : ∃ w, ws[c.k.toNat]? = some w := ⟨_, List.getElem?_eq_getElem hkw⟩
    have hwok := hwo w (List.mem_of_getElem? hw)
    have hbwk : b.words[(HC.abs c).k.toNat]? = some w.1 := by rw [hwd, List.getElem?_map, ek, hw]; rfl
    rw [if_pos (by rw [eln]; exact h1), hbwk, Option.getD_some, hbw, ek] at hsp
    have ffl := hcok.f.rows_len cwV_len (by decide)
    have hfl : c.fs.length = c.k.toNat := by rw [← kf]; simp [HC.abs]
    have rw0 : ∀ {Hc : List Value} {X : List Ent} {j : Nat} {v : Value}, (cwV w)[j]? = some v → H.rd ⟨[boardE p bw bh n, ⟨some bw, ws.flatMap cwV, c1⟩, ⟨some bh, Hc, c2⟩] ++ T ++ X, ro⟩ (Addr.mk bw (c.k.toNat * 3 + j) none) v := fun hj => rd_row cwV_len ⟨some bw, _, c1⟩ (List.mem_append_left _ (List.mem_append_left _ (.tail _ (.head _)))) rfl rfl hw rfl hj
    refine ⟨fun h => ∃ s' e', h = ⟨[boardE p bw bh n, ⟨some bw, ws.flatMap cwV, c1⟩, ⟨some bh, (cs.set q.toNat { c with sf := s' }).flatMap hcV, c2⟩] ++ T ++ ([e', c.el, c.em] ++ D), ro⟩ ∧ OwnsSl 3 s' e' ((c.fs ++ [w]).flatMap cwV), ?_, ?_⟩
    · have fin1 : ∀ s' e', OwnsSl 3 s' e' (c.fs.flatMap cwV ++ cwV w) → H.wr ⟨[boardE p bw bh n, ⟨some bw, ws.flatMap cwV, c1⟩, ⟨some bh, cs.flatMap hcV, c2⟩] ++ T ++ e' :: ([c.el, c.em] ++ D), ro⟩ (Addr.mk bh (q.toNat * 7 + 4) none) [.slice s'.a s'.len s'.cap]
          (fun h => ∃ h2, Gh h h2 ∧ ∃ s' e', h2 = ⟨[boardE p bw bh n, ⟨some bw, ws.flatMap cwV, c1⟩, ⟨some bh, (cs.set q.toNat { c with sf := s' }).flatMap hcV, c2⟩] ++ T ++ ([e', c.el, c.em] ++ D), ro⟩ ∧ OwnsSl 3 s' e' ((c.fs ++ [w]).flatMap cwV)) := by
        intro s' e' o'
        refine wr_rows hcV_len [_, _] ⟨some bh, cs.flatMap hcV, c2⟩ (T ++ e' :: ([c.el, c.em] ++ D)) { c with sf := s' } ⟨rfl, trivial⟩ (by simp; exact ⟨rfl, rfl⟩) rfl rfl hc (j := 4) rfl (by simp) rfl (gi ⟨s', e', by simp, ?_⟩)
        simpa [List.flatMap_append] using o'
      have app : ∀ {K : SV → H → Prop}, (∀ s' e', OwnsSl 3 s' e' (c.fs.flatMap cwV ++ cwV w) → K s' ⟨[boardE p bw bh n, ⟨some bw, ws.flatMap cwV, c1⟩, ⟨some bh, cs.flatMap hcV, c2⟩] ++ T ++ e' :: ([c.el, c.em] ++ D), ro⟩) →
          H.new ⟨[boardE p bw bh n, ⟨some bw, ws.flatMap cwV, c1⟩, ⟨some bh, cs.flatMap hcV, c2⟩] ++ T ++ ([c.ef, c.el, c.em] ++ D), ro⟩ [.int .i64 w.1.value, .int .i64 w.1.turn, .slice w.2.a w.2.len w.2.cap] fun r h' => appVC Tryd.prog 100 (.slice c.sf.a c.sf.len c.sf.cap) (.slice (some (Addr.mk r 0 none)) 1 1) h' K :=
        fun hK => app_row grows_words (vs := cwV w) rfl ⟨rfl, rfl, rfl, trivial⟩ ([boardE p bw bh n, ⟨some bw, ws.flatMap cwV, c1⟩, ⟨some bh, cs.flatMap hcV, c2⟩] ++ T) c.ef ([c.el, c.em] ++ D) rfl hcok.f (by omega) (fun s' e' o' _ => hK s' e' o')
      have bnd : ∀ {K : Addr → Prop}, K (Addr.mk bw 0 none) → ∃ b : Addr, some (Addr.mk bw 0 none) = some b ∧ 0 ≤ c.k ∧ c.k < ((n : Nat) : Int) ∧ K b := fun hK => ⟨_, rfl, k0, k1, hK⟩
      have rf := rH (X := [c.ef, c.el, c.em] ++ D) (W := ws.flatMap cwV) hc (j := 4) rfl
      have rk := rH (X := [c.ef, c.el, c.em] ++ D) (W := ws.flatMap cwV) hc (j := 1) rfl
      have rW := rB (X := [c.ef, c.el, c.em] ++ D) (W := ws.flatMap cwV) (Hc := cs.flatMap hcV) (j := 0) rfl
      have rv := rw0 (X := [c.ef, c.el, c.em] ++ D) (Hc := cs.flatMap hcV) (j := 0) rfl
      have rt := rw0 (X := [c.ef, c.el, c.em] ++ D) (Hc := cs.flatMap hcV) (j := 1) rfl
      have rs := rw0 (X := [c.ef, c.el, c.em] ++ D) (Hc := cs.flatMap hcV) (j := 2) rfl
      simp only [Nat.add_zero] at rv
      repeat' (first
        | refine ⟨c.sf, rf, ?_⟩
        | refine ⟨⟨some (Addr.mk bw 0 none), n, n⟩, rW, ?_⟩
        | refine ⟨c.k, rk, ?_⟩
        | (refine bnd ?_; simp only [add_mk', Nat.zero_add, Nat.add_zero])
        | refine ⟨w.1.value, rv, ?_⟩
        | refine ⟨w.1.turn, rt, ?_⟩
        | refine ⟨w.2, rs, ?_⟩
        | exact app (fun s' e' o' => fin1 s' e' o')
        | (intro r hr
           refine ⟨c.sf, rd_row hcV_len ⟨some bh, cs.flatMap hcV, c2⟩ (List.mem_append_left _ (List.mem_append_left _ (List.mem_append_left _ (.tail _ (.tail _ (.head _)))))) rfl rfl hc (j := 4) rfl rfl, ?_⟩
           exact app (fun s' e' o' => fin1 s' e' o') r hr)
        | refine And.intro ?_ ?_)
    rintro _ h ⟨s', e', rfl, o'⟩
    have hc1 : (cs.set q.toNat { c with sf := s' })[q.toNat]? = some { c with sf := s' } := hset1
    refine ⟨c.k, rH hc1 (j := 1) rfl, ⟨by omega, by omega⟩, ?_⟩
    refine wr_rows hcV_len [boardE p bw bh n, ⟨some bw, ws.flatMap cwV, c1⟩] ⟨some bh, _, c2⟩ (T ++ ([e', c.el, c.em] ++ D)) { c with sf := s', k := c.k + 1 } ⟨rfl, trivial⟩ rfl rfl rfl hc1 (j := 1) rfl (by simp) rfl ?_
    rw [List.set_set]
    have hc2 : (cs.set q.toNat { c with sf := s', k := c.k + 1 })[q.toNat]? = some { c with sf := s', k := c.k + 1 } := hset1
    refine ⟨c.k + 1, rH hc2 (j := 1) rfl, ⟨some (Addr.mk bw 0 none), n, n⟩, rB rfl, VIf_eq (fun hn => ?_) (fun hn => ?_)⟩
    · dsimp only at hn
      refine wr_rows hcV_len [boardE p bw bh n, ⟨some bw, ws.flatMap cwV, c1⟩] ⟨some bh, _, c2⟩ (T ++ ([e', c.el, c.em] ++ D)) { c with sf := s', k := c.k + 1, ln := 2 } ⟨rfl, trivial⟩ rfl rfl rfl hc2 (j := 0) rfl (by simp) rfl ?_
      rw [List.set_set]
      have hc3 : (cs.set q.toNat { c with sf := s', k := c.k + 1, ln := 2 })[q.toNat]? = some { c with sf := s', k := c.k + 1, ln := 2 } := hset1
      refine wr_rows hcV_len [boardE p bw bh n, ⟨some bw, ws.flatMap cwV, c1⟩] ⟨some bh, _, c2⟩ (T ++ ([e', c.el, c.em] ++ D)) { c with sf := s', k := 0, ln := 2 } ⟨rfl, trivial⟩ rfl rfl rfl hc3 (j := 1) rfl (by simp) rfl ?_
      rw [List.set_set]
      refine ⟨_, nil, ?_⟩
      have := fin ro ws { c with sf := s', k := 0, ln := 2 } { c with sf := s', k := 0, ln := 2, ef := e', fs := c.fs ++ [w] } rfl (fun _ _ h => h) hwl hwo ⟨o', hcok.l, hcok.m, by intro y hy; simp at hy; rcases hy with hy | rfl; exact hcok.wf y hy; exact hwok, hcok.wl⟩
      rw [if_pos hn] at hsp
      subst hsp
      refine hk _ hr0 _ ⟨none, 0, 0⟩ _ ro (fun _ _ h => h) ?_ (OwnsSl.nil 1)
      rw [← hwd] at this
      simpa [HC.abs] using this
    · dsimp only at hn
      refine ⟨_, nil, ?_⟩
      have := fin ro ws { c with sf := s', k := c.k + 1 } { c with sf := s', k := c.k + 1, ef := e', fs := c.fs ++ [w] } rfl (fun _ _ h => h) hwl hwo ⟨o', hcok.l, hcok.m, by intro y hy; simp at hy; rcases hy with hy | rfl; exact hcok.wf y hy; exact hwok, hcok.wl⟩
      rw [if_neg hn] at hsp
      subst hsp
      refine hk _ hr0 _ ⟨none, 0, 0⟩ _ ro (fun _ _ h => h) ?_ (OwnsSl.nil 1)
      rw [← hwd] at this
      simpa [HC.abs] using this
  · -- the last words
    obtain ⟨k0, k1, kf, kl, km, kb⟩ := a2 h2
    rw [ek] at k0 k1 kl
    have hkw : c.k.toNat < ws.length := by omega
    obtain ⟨w, hw⟩ : ∃ w, ws[c.k.toNat]? = some w := ⟨_, List.getElem?_eq_getElem hkw⟩
    have hwok := hwo w (List.mem_of_getElem? hw)
    have hbwk : b.words[(HC.abs c).k.toNat]? = some w.1 := by rw [hwd, List.getElem?_map, ek, hw]; rfl
    rw [if_neg (by rw [eln]; exact h1), if_pos (by rw [eln]; exact h2), hbwk, Option.getD_some, hbw, ek] at hsp
    have lfl := hcok.l.rows_len cwV_len (by decide)
    have hll : c.ls.length = c.k.toNat := by rw [← kl]; simp [HC.abs]
    have hfl : c.fs.length = n := by rw [← kf]; simp [HC.abs]
    have hml : c.moved.length = n := km
    have rw0 : ∀ {Hc : List Value} {X : List Ent} {j : Nat} {v : Value}, (cwV w)[j]? = some v → H.rd ⟨[boardE p bw bh n, ⟨some bw, ws.flatMap cwV, c1⟩, ⟨some bh, Hc, c2⟩] ++ T ++ X, ro⟩ (Addr.mk bw (c.k.toNat * 3 + j) none) v := fun hj => rd_row cwV_len ⟨some bw, _, c1⟩ (List.mem_append_left _ (List.mem_append_left _ (.tail _ (.head _)))) rfl rfl hw rfl hj
    refine ⟨fun h => ∃ s' e', h = ⟨[boardE p bw bh n, ⟨some bw, ws.flatMap cwV, c1⟩, ⟨some bh, (cs.set q.toNat { c with sl := s' }).flatMap hcV, c2⟩] ++ T ++ ([c.ef, e', c.em] ++ D), ro⟩ ∧ OwnsSl 3 s' e' ((c.ls ++ [w]).flatMap cwV), ?_, ?_⟩
    · have fin1 : ∀ s' e', OwnsSl 3 s' e' (c.ls.flatMap cwV ++ cwV w) → H.wr ⟨[boardE p bw bh n, ⟨some bw, ws.flatMap cwV, c1⟩, ⟨some bh, cs.flatMap hcV, c2⟩] ++ T ++ [c.ef] ++ e' :: ([c.em] ++ D), ro⟩ (Addr.mk bh (q.toNat * 7 + 5) none) [.slice s'.a s'.len s'.cap]
          (fun h => ∃ h2, Gh h h2 ∧ ∃ s' e', h2 = ⟨[boardE p bw bh n, ⟨some bw, ws.flatMap cwV, c1⟩, ⟨some bh, (cs.set q.toNat { c with sl := s' }).flatMap hcV, c2⟩] ++ T ++ ([c.ef, e', c.em] ++ D), ro⟩ ∧ OwnsSl 3 s' e' ((c.ls ++ [w]).flatMap cwV)) := by
        intro s' e' o'
        refine wr_rows hcV_len [_, _] ⟨some bh, cs.flatMap hcV, c2⟩ (T ++ [c.ef] ++ e' :: ([c.em] ++ D)) { c with sl := s' } ⟨rfl, trivial⟩ (by simp; exact ⟨rfl, rfl⟩) rfl rfl hc (j := 5) rfl (by simp) rfl (gi ⟨s', e', by simp, ?_⟩)
        simpa [List.flatMap_append] using o'
      have app : ∀ {K : SV → H → Prop}, (∀ s' e', OwnsSl 3 s' e' (c.ls.flatMap cwV ++ cwV w) → K s' ⟨[boardE p bw bh n, ⟨some bw, ws.flatMap cwV, c1⟩, ⟨some bh, cs.flatMap hcV, c2⟩] ++ T ++ [c.ef] ++ e' :: ([c.em] ++ D), ro⟩) →
          H.new ⟨[boardE p bw bh n, ⟨some bw, ws.flatMap cwV, c1⟩, ⟨some bh, cs.flatMap hcV, c2⟩] ++ T ++ ([c.ef, c.el, c.em] ++ D), ro⟩ [.int .i64 w.1.value, .int .i64 w.1.turn, .slice w.2.a w.2.len w.2.cap] fun r h' => appVC Tryd.prog 100 (.slice c.sl.a c.sl.len c.sl.cap) (.slice (some (Addr.mk r 0 none)) 1 1) h' K :=
        fun hK => app_row grows_words (vs := cwV w) rfl ⟨rfl, rfl, rfl, trivial⟩ ([boardE p bw bh n, ⟨some bw, ws.flatMap cwV, c1⟩, ⟨some bh, cs.flatMap hcV, c2⟩] ++ T ++ [c.ef]) c.el ([c.em] ++ D) (by simp) hcok.l (by omega) (fun s' e' o' _ => hK s' e' o')
      have bnd : ∀ {K : Addr → Prop}, K (Addr.mk bw 0 none) → ∃ b : Addr, some (Addr.mk bw 0 none) = some b ∧ 0 ≤ c.k ∧ c.k < ((n : Nat) : Int) ∧ K b := fun hK => ⟨_, rfl, k0, k1, hK⟩
      have rf := rH (X := [c.ef, c.el, c.em] ++ D) (W := ws.flatMap cwV) hc (j := 5) rfl
      have rk := rH (X := [c.ef, c.el, c.em] ++ D) (W := ws.flatMap cwV) hc (j := 1) rfl
      have rW := rB (X := [c.ef, c.el, c.em] ++ D) (W := ws.flatMap cwV) (Hc := cs.flatMap hcV) (j := 0) rfl
      have rv := rw0 (X := [c.ef, c.el, c.em] ++ D) (Hc := cs.flatMap hcV) (j := 0) rfl
      have rt := rw0 (X := [c.ef, c.el, c.em] ++ D) (Hc := cs.flatMap hcV) (j := 1) rfl
      have rs := rw0 (X := [c.ef, c.el, c.em] ++ D) (Hc := cs.flatMap hcV) (j := 2) rfl
      simp only [Nat.add_zero] at rv
      repeat' (first
        | refine ⟨c.sl, rf, ?_⟩
        | refine ⟨⟨some (Addr.mk bw 0 none), n, n⟩, rW, ?_⟩
        | refine ⟨c.k, rk, ?_⟩
        | (refine bnd ?_; simp only [add_mk', Nat.zero_add, Nat.add_zero])
        | refine ⟨w.1.value, rv, ?_⟩
        | refine ⟨w.1.turn, rt, ?_⟩
        | refine ⟨w.2, rs, ?_⟩
        | exact app (fun s' e' o' => fin1 s' e' o')
        | (intro r hr
           refine ⟨c.sl, rd_row hcV_len ⟨some bh, cs.flatMap hcV, c2⟩ (List.mem_append_left _ (List.mem_append_left _ (List.mem_append_left _ (.tail _ (.tail _ (.head _)))))) rfl rfl hc (j := 5) rfl rfl, ?_⟩
           exact app (fun s' e' o' => fin1 s' e' o') r hr)
        | refine And.intro ?_ ?_)
    rintro _ h ⟨s', e', rfl, o'⟩
    have hc1 : (cs.set q.toNat { c with sl := s' })[q.toNat]? = some { c with sl := s' } := hset1
    refine ⟨c.k, rH hc1 (j := 1) rfl, ⟨by omega, by omega⟩, ?_⟩
    refine wr_rows hcV_len [boardE p bw bh n, ⟨some bw, ws.flatMap cwV, c1⟩] ⟨some bh, _, c2⟩ (T ++ ([c.ef, e', c.em] ++ D)) { c with sl := s', k := c.k + 1 } ⟨rfl, trivial⟩ rfl rfl rfl hc1 (j := 1) rfl (by simp) rfl ?_
    rw [List.set_set]
    have hc2 : (cs.set q.toNat { c with sl := s', k := c.k + 1 })[q.toNat]? = some { c with sl := s', k := c.k + 1 } := hset1
    have hwl' : ∀ y ∈ c.ls ++ [w], CW.ok ro y := by intro y hy; simp at hy; rcases hy with hy | rfl; exact hcok.wl y hy; exact hwok
    refine ⟨c.k + 1, rH hc2 (j := 1) rfl, ⟨some (Addr.mk bw 0 none), n, n⟩, rB rfl, VIf_eq (fun hn => ?_) (fun hn => ?_)⟩
    · dsimp only at hn
      rw [if_pos hn] at hsp
      refine wr_rows hcV_len [boardE p bw bh n, ⟨some bw, ws.flatMap cwV, c1⟩] ⟨some bh, _, c2⟩ (T ++ ([c.ef, e', c.em] ++ D)) { c with sl := s', k := 0 } ⟨rfl, trivial⟩ rfl rfl rfl hc2 (j := 1) rfl (by simp) rfl ?_
      rw [List.set_set]
      have hc3 : (cs.set q.toNat { c with sl := s', k := 0 })[q.toNat]? = some { c with sl := s', k := 0 } := hset1
      have rg : ∀ (j : Nat) (v : Value), j < 7 → (hcV { c with sl := s', k := 0 })[j]? = some v → ((cs.set q.toNat { c with sl := s', k := 0 }).flatMap hcV)[q.toNat * 7 + j]? = some v := fun j v hj hv => by rw [rows_get hcV_len _ _ _ hj, hc3]; exact hv
      refine sees_c ([boardE p bw bh n, ⟨some bw, ws.flatMap cwV, c1⟩, ⟨some bh, (cs.set q.toNat { c with sl := s', k := 0 }).flatMap hcV, c2⟩] ++ T ++ [c.ef, e']) c.em D (by simp) ⟨some bh, (cs.set q.toNat { c with sl := s', k := 0 }).flatMap hcV, c2⟩ c.ef e' (by simp) (by simp) (by simp) rfl (rg 4 _ (by decide) rfl) (rg 5 _ (by decide) rfl) (rg 6 _ (by decide) rfl)
        hcok.f o' hcok.m (by simp; omega) (by omega) (by omega) kb hwl' (fun s2 e2 em' om' hr2 hl2 => ⟨s2, _, rfl, ?_⟩)
      have efs : c.fs.map (·.1) = (HC.abs c).first := rfl
      have els : (c.ls ++ [w]).map (·.1) = (HC.abs c).last ++ [w.1] := by simp [HC.abs]
      have emv : (HC.abs c).moved = c.moved := rfl
      rw [efs, els] at om' hr2
      rw [efs, els]
      rw [emv] at hsp
      generalize hgo : seesGo (HC.abs c).first ((HC.abs c).last ++ [w.1]) 0 c.moved [] true = sg at om' hr2 hsp
      refine VIf_b (fun hok => ?_) (fun hok => ?_)
      · rw [if_pos hok] at hsp
        refine f49_call _ _ _ _ _ ?_
        simp only [f49_sem, add_mk', Option.some.injEq, exists_eq_left', Nat.zero_add, Nat.add_zero]
        have sh : ∀ (X : List Ent), [boardE p bw bh n, ⟨some bw, ws.flatMap cwV, c1⟩, ⟨some bh, (cs.set q.toNat { c with sl := s', k := 0 }).flatMap hcV, c2⟩] ++ T ++ [c.ef, e'] ++ em' :: D ++ X = [boardE p bw bh n, ⟨some bw, ws.flatMap cwV, c1⟩, ⟨some bh, (cs.set q.toNat { c with sl := s', k := 0 }).flatMap hcV, c2⟩] ++ T ++ ([c.ef, e', em'] ++ (D ++ X)) := fun X => by simp
        rw [sh]
        refine ⟨⟨some (Addr.mk bh 0 none), n, n⟩, rB rfl, Addr.mk bh 0 none, rfl, by omega, by simp only; omega, ?_⟩
        simp only [add_mk', Nat.zero_add, Nat.add_zero]
        refine ⟨c.writes, rH hc3 (j := 2) rfl, VIf_b (fun hwr => ?_) (fun hwr => ?_)⟩
        · refine clone_c (hr2 _ (by simp)) (by omega) (fun s3 e3 o3 => ⟨s3, rfl, ?_⟩)
          refine wr_rows hcV_len [boardE p bw bh n, ⟨some bw, ws.flatMap cwV, c1⟩] ⟨some bh, _, c2⟩ (T ++ ([c.ef, e', em'] ++ (D ++ [e2])) ++ [e3]) { c with sl := s', k := 0, ln := 3 } ⟨rfl, trivial⟩ rfl rfl rfl hc3 (j := 0) rfl (by simp) rfl ?_
          rw [List.set_set]
          have hc4 : (cs.set q.toNat { c with sl := s', k := 0, ln := 3 })[q.toNat]? = some { c with sl := s', k := 0, ln := 3 } := hset1
          refine wr_rows hcV_len [boardE p bw bh n, ⟨some bw, ws.flatMap cwV, c1⟩] ⟨some bh, _, c2⟩ (T ++ ([c.ef, e', em'] ++ (D ++ [e2])) ++ [e3]) { c with sl := s', k := 0, ln := 3, sm := s3 } ⟨rfl, trivial⟩ rfl rfl rfl hc4 (j := 6) rfl (by simp) rfl ?_
          rw [List.set_set]
          have hz := fin ro ws { c with sl := s', k := 0, ln := 3, sm := s3 } { c with sl := s', k := 0, ln := 3, sm := s3, el := e', em := e3, ls := c.ls ++ [w], moved := sg.1 } rfl (fun _ _ h => h) hwl hwo ⟨hcok.f, o', o3, hcok.wf, hwl'⟩
          rw [snapSaw, if_pos (show (HC.abs c).writes = true from hwr)] at hsp
          subst hsp
          refine ret ⟨false, ⟨none, 0, 0⟩, none, rfl, ?_⟩
          refine ⟨_, ?_, hk _ hr0 ([boardE p bw bh n, ⟨some bw, ws.flatMap cwV, c1⟩, ⟨some bh, (cs.set q.toNat { c with sl := s', k := 0, ln := 3, sm := s3 }).flatMap hcV, c2⟩] ++ T ++ ([c.ef, e', e3] ++ D)) ⟨none, 0, 0⟩ ⟨none, [], 0⟩ ro (fun _ _ h => h) ?_ (OwnsSl.nil 1)⟩
          · refine Gh.trans (Gh.drop (own' := [boardE p bw bh n, ⟨some bw, ws.flatMap cwV, c1⟩, ⟨some bh, (cs.set q.toNat { c with sl := s', k := 0, ln := 3, sm := s3 }).flatMap hcV, c2⟩] ++ T ++ ([c.ef, e'] ++ D) ++ [e3]) ?_) (Gh.trans (Gh.perm ?_) nil)
            · simp
            · simp only [List.append_assoc]
              refine List.Perm.append_left _ (List.Perm.append_left _ ?_)
              simp only [List.cons_append, List.nil_append]
              refine List.Perm.cons _ (List.Perm.cons _ ?_)
              exact (List.perm_append_singleton _ _).symm
          · rw [← hwd] at hz
            simpa [HC.abs] using hz
        · refine ⟨rfl, rfl, wr_rows hcV_len [boardE p bw bh n, ⟨some bw, ws.flatMap cwV, c1⟩] ⟨some bh, _, c2⟩ (T ++ ([c.ef, e', em'] ++ (D ++ [e2]))) hc0 ⟨rfl, rfl, rfl, rfl, rfl, rfl, rfl, trivial⟩ rfl rfl rfl hc3 (j := 0) rfl (by simp) rfl ?_⟩
          rw [List.set_set]
          refine clone_c (hr2 _ (by simp)) (by omega) (fun s3 e3 o3 => ⟨s3, rfl, ?_⟩)
          have hz := fin ro ws hc0 hc0 rfl (fun _ _ h => h) hwl hwo (hc0_ok ro)
          rw [snapSaw, if_neg (show ¬ (HC.abs c).writes = true by rw [show (HC.abs c).writes = c.writes from rfl, hwr]; simp)] at hsp
          subst hsp
          refine ret ⟨true, s3, none, rfl, ?_⟩
          refine ⟨_, ?_, hk _ hr0 ([boardE p bw bh n, ⟨some bw, ws.flatMap cwV, c1⟩, ⟨some bh, (cs.set q.toNat hc0).flatMap hcV, c2⟩] ++ T ++ ([⟨none, [], 0⟩, ⟨none, [], 0⟩, ⟨none, [], 0⟩] ++ D)) s3 e3 ro (fun _ _ h => h) ?_ o3⟩
          · have g := Gh.put0 (ro := ro) ([boardE p bw bh n, ⟨some bw, ws.flatMap cwV, c1⟩, ⟨some bh, (cs.set q.toNat hc0).flatMap hcV, c2⟩] ++ T) [c.ef, e', em'] D [e3]
            refine Gh.trans (Gh.drop ?_) g
            simp
          · rw [← hwd] at hz
            simpa [HC.abs, hc0, shand0] using hz
      · rw [if_neg (by rw [hok]; simp)] at hsp
        have sh : ∀ (X : List Ent) (Hc : List Value), [boardE p bw bh n, ⟨some bw, ws.flatMap cwV, c1⟩, ⟨some bh, Hc, c2⟩] ++ T ++ [c.ef, e'] ++ em' :: D ++ X = [boardE p bw bh n, ⟨some bw, ws.flatMap cwV, c1⟩, ⟨some bh, Hc, c2⟩] ++ T ++ ([c.ef, e', em'] ++ (D ++ X)) := fun X Hc => by simp
        rw [sh]
        refine ⟨s', rH hc3 (j := 5) rfl, ?_⟩
        refine wr_rows hcV_len [boardE p bw bh n, ⟨some bw, ws.flatMap cwV, c1⟩] ⟨some bh, _, c2⟩ (T ++ ([c.ef, e', em'] ++ (D ++ [e2]))) { c with sl := s', k := 0, sf := s' } ⟨rfl, trivial⟩ rfl rfl rfl hc3 (j := 4) rfl (by simp) rfl ?_
        rw [List.set_set]
        have hc4 : (cs.set q.toNat { c with sl := s', k := 0, sf := s' })[q.toNat]? = some { c with sl := s', k := 0, sf := s' } := hset1
        refine wr_rows hcV_len [boardE p bw bh n, ⟨some bw, ws.flatMap cwV, c1⟩] ⟨some bh, _, c2⟩ (T ++ ([c.ef, e', em'] ++ (D ++ [e2]))) { c with sl := ⟨none, 0, 0⟩, k := 0, sf := s' } ⟨rfl, trivial⟩ rfl rfl rfl hc4 (j := 5) rfl (by simp) rfl ?_
        rw [List.set_set]
        have hz := fin ro ws { c with sl := ⟨none, 0, 0⟩, k := 0, sf := s' } { c with sl := ⟨none, 0, 0⟩, k := 0, sf := s', ef := e', el := ⟨none, [], 0⟩, em := em', fs := c.ls ++ [w], ls := [], moved := sg.2.2 } rfl (fun _ _ h => h) hwl hwo ⟨o', OwnsSl.nil 3, om', hwl', by simp⟩
        subst hsp
        refine ⟨_, ?_, hk _ hr0 ([boardE p bw bh n, ⟨some bw, ws.flatMap cwV, c1⟩, ⟨some bh, (cs.set q.toNat { c with sl := ⟨none, 0, 0⟩, k := 0, sf := s' }).flatMap hcV, c2⟩] ++ T ++ ([e', ⟨none, [], 0⟩, em'] ++ D)) ⟨none, 0, 0⟩ ⟨none, [], 0⟩ ro (fun _ _ h => h) ?_ (OwnsSl.nil 1)⟩
        · generalize hP : [boardE p bw bh n, ⟨some bw, ws.flatMap cwV, c1⟩, ⟨some bh, (cs.set q.toNat { c with sl := ⟨none, 0, 0⟩, k := 0, sf := s' }).flatMap hcV, c2⟩] ++ T = P
          have g0 := Gh.phantom (P ++ [e']) ([em'] ++ D) ro 0
          have g1 := g0.trans nil
          refine Gh.trans (Gh.drop (own' := (P ++ [e']) ++ ([em'] ++ D)) ?_) (by simpa using g1)
          rw [← hP]
          simp
        · rw [← hwd] at hz
          simpa [HC.abs] using hz
    · dsimp only at hn
      refine ⟨_, nil, ?_⟩
      have := fin ro ws { c with sl := s', k := c.k + 1 } { c with sl := s', k := c.k + 1, el := e', ls := c.ls ++ [w] } rfl (fun _ _ h => h) hwl hwo ⟨hcok.f, o', hcok.m, hcok.wf, hwl'⟩
      rw [if_neg hn] at hsp
      subst hsp
      refine hk _ hr0 _ ⟨none, 0, 0⟩ _ ro (fun _ _ h => h) ?_ (OwnsSl.nil 1)
      rw [← hwd] at this
      simpa [HC.abs] using this
  · -- the word is written
    have hml := a3 h3
    have hml : c.moved.length ≤ 4 := hml
    rw [if_neg (by rw [eln]; exact h1), if_neg (by rw [eln]; exact h2), if_pos (by rw [eln]; exact h3)] at hsp
    have hqw : q.toNat < ws.length := by omega
    obtain ⟨w, hw⟩ : ∃ w, ws[q.toNat]? = some w := ⟨_, List.getElem?_eq_getElem hqw⟩
    have hbwk : b.words[q.toNat]? = some w.1 := by rw [hwd, List.getElem?_map, hw]; rfl
    rw [hbwk, Option.getD_some] at hsp
    obtain ⟨t0, t1⟩ := bwt w.1 (List.mem_of_getElem? hbwk)
    refine ⟨⟨some (Addr.mk bw 0 none), n, n⟩, rB rfl, c.value, rH hc (j := 3) rfl, ⟨some (Addr.mk bw 0 none), n, n⟩, rB rfl, Addr.mk bw 0 none, rfl, by omega, by simp only; omega, ?_⟩
    simp only [add_mk', Nat.zero_add, Nat.add_zero]
    refine ⟨w.1.turn, rd_row cwV_len ⟨some bw, ws.flatMap cwV, c1⟩ (List.mem_append_left _ (List.mem_append_left _ (.tail _ (.head _)))) rfl rfl hw (j := 1) rfl rfl, ⟨by omega, by omega⟩, c.sm, rH hc (j := 6) rfl, Addr.mk bw 0 none, rfl, by omega, by first | omega | (simp only; omega), rfl, rfl, ?_⟩
    simp only [add_mk', Nat.zero_add, Nat.add_zero]
    refine wr_rows cwV_len [boardE p bw bh n] ⟨some bw, ws.flatMap cwV, c1⟩ ([⟨some bh, cs.flatMap hcV, c2⟩] ++ T ++ ([c.ef, c.el, c.em] ++ D)) ((⟨c.value, w.1.turn + 1, c.moved⟩, c.sm) : CW) ⟨rfl, rfl, rfl, trivial⟩ rfl rfl rfl hw (j := 0) rfl (by simp) rfl ?_
    refine ⟨rfl, rfl, wr_rows hcV_len [boardE p bw bh n, _] ⟨some bh, cs.flatMap hcV, c2⟩ (T ++ ([c.ef, c.el, c.em] ++ D)) hc0 ⟨rfl, rfl, rfl, rfl, rfl, rfl, rfl, trivial⟩ rfl rfl rfl hc (j := 0) rfl (by simp) rfl ?_⟩
    have hro : ∀ a v, ro a = some v → c.em.id ≠ some a.block := fun a v hv => hap a v hv c.em (by simp)
    have hz := fin (Go.Eng.frozen c.em ro) (ws.set q.toNat ((⟨c.value, w.1.turn + 1, c.moved⟩, c.sm) : CW)) hc0 hc0 rfl (frozen_mono hro) (by simpa using hwl) (fun y hy => by
      rcases mem_set_cases hy with rfl | ⟨j, _, hj⟩
      · exact ⟨RdSl.frozen hcok.m, hml⟩
      · exact (hwo y (List.mem_of_getElem? hj)).up (frozen_mono hro)) (hc0_ok _)
    subst hsp
    refine ⟨_, ?_, hk _ hr0 ([boardE p bw bh n, ⟨some bw, (ws.set q.toNat ((⟨c.value, w.1.turn + 1, c.moved⟩, c.sm) : CW)).flatMap cwV, c1⟩, ⟨some bh, (cs.set q.toNat hc0).flatMap hcV, c2⟩] ++ T ++ ([⟨none, [], 0⟩, ⟨none, [], 0⟩, ⟨none, [], 0⟩] ++ D)) ⟨none, 0, 0⟩ ⟨none, [], 0⟩ (Go.Eng.frozen c.em ro) (frozen_mono hro) ?_ (OwnsSl.nil 1)⟩
    · have g0 := Gh.freeze ([boardE p bw bh n, ⟨some bw, (ws.set q.toNat ((⟨c.value, w.1.turn + 1, c.moved⟩, c.sm) : CW)).flatMap cwV, c1⟩, ⟨some bh, (cs.set q.toNat hc0).flatMap hcV, c2⟩] ++ T ++ [c.ef, c.el]) D ro c.em hro
      have g1 := Gh.put0 (ro := Go.Eng.frozen c.em ro) ([boardE p bw bh n, ⟨some bw, (ws.set q.toNat ((⟨c.value, w.1.turn + 1, c.moved⟩, c.sm) : CW)).flatMap cwV, c1⟩, ⟨some bh, (cs.set q.toNat hc0).flatMap hcV, c2⟩] ++ T) [c.ef, c.el] D []
      have g2 := Gh.phantom ([boardE p bw bh n, ⟨some bw, (ws.set q.toNat ((⟨c.value, w.1.turn + 1, c.moved⟩, c.sm) : CW)).flatMap cwV, c1⟩, ⟨some bh, (cs.set q.toNat hc0).flatMap hcV, c2⟩] ++ T ++ ([⟨none, [], 0⟩, ⟨none, [], 0⟩, ⟨none, [], 0⟩] ++ D)) [] (Go.Eng.frozen c.em ro) 0
      have g01 := g0.trans (by simpa using g1)
      have := g01.trans (by simpa using g2)
      simpa using this
    · simpa [HC.abs, hc0, shand0, List.map_set, hwd] using hz
  · rw [if_neg (by rw [eln]; exact h1), if_neg (by rw [eln]; exact h2), if_neg (by rw [eln]; exact h3)] at hsp
    subst hsp
    rw [← hsh]
    exact ⟨_, nil, hk _ hr0 _ ⟨none, 0, 0⟩ _ ro (fun _ _ h => h) hs' (OwnsSl.nil 1)⟩
end Go.Proofs.YtnecppjgcbhnaaaDoor
