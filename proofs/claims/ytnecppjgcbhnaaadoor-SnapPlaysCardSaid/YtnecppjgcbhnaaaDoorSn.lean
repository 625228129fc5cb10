import Derived.Test.YtnecppjgcbhnaaaDoorHd
namespace Go.Proofs.YtnecppjgcbhnaaaDoor
open Go.Eng
set_option maxRecDepth 20000
/-! ### many words at once -/
structure SWord where
  value : Int
  turn : Int
  seen : List Int
structure SHand where
  ln : Int
  k : Int
  writes : Bool
  value : Int
  first : List SWord
  last : List SWord
  moved : List Int
structure Board where
  words : List SWord
  hands : List SHand
/-- a word as it lies: what it is, and where what was seen lies -/
abbrev CW := SWord × SV
def cwV (c : CW) : List Value := [.int .i64 c.1.value, .int .i64 c.1.turn, .slice c.2.a c.2.len c.2.cap]
theorem cwV_len (c : CW) : (cwV c).length = 3 := rfl
def CW.ok (ro : Addr → Option Value) (c : CW) : Prop := RdSl ⟨[], ro⟩ c.2 (ints c.1.seen) ∧ c.1.seen.length ≤ 4
theorem CW.ok.up {ro ro2 : Addr → Option Value} {c : CW} (h : CW.ok ro c) (h2 : ∀ a v, ro a = some v → ro2 a = some v) : CW.ok ro2 c := ⟨RdSl.up h.1 (by simp) h2, h.2⟩
theorem grows_words : Grows Tryd.prog 100 105 3 := ⟨rfl, rfl, by decide, by decide, ⟨_, rfl, rfl, ⟨rfl, rfl, rfl, trivial⟩⟩⟩
/-- a hand as it lies -/
structure HC where
  ln : Int
  k : Int
  writes : Bool
  value : Int
  fs : List CW
  ls : List CW
  moved : List Int
  sf : SV
  sl : SV
  sm : SV
  ef : Ent
  el : Ent
  em : Ent
def HC.abs (c : HC) : SHand := ⟨c.ln, c.k, c.writes, c.value, c.fs.map (·.1), c.ls.map (·.1), c.moved⟩
def hcV (c : HC) : List Value := [.int .i64 c.ln, .int .i64 c.k, .bool c.writes, .int .i64 c.value, .slice c.sf.a c.sf.len c.sf.cap, .slice c.sl.a c.sl.len c.sl.cap, .slice c.sm.a c.sm.len c.sm.cap]
theorem hcV_len (c : HC) : (hcV c).length = 7 := rfl
def HC.ents (c : HC) : List Ent := [c.ef, c.el, c.em]
structure HC.ok (ro : Addr → Option Value) (c : HC) : Prop where
  f : OwnsSl 3 c.sf c.ef (c.fs.flatMap cwV)
  l : OwnsSl 3 c.sl c.el (c.ls.flatMap cwV)
  m : OwnsSl 1 c.sm c.em (ints c.moved)
  wf : ∀ w ∈ c.fs, CW.ok ro w
  wl : ∀ w ∈ c.ls, CW.ok ro w
theorem HC.ok.up {ro ro2 : Addr → Option Value} {c : HC} (h : HC.ok ro c) (h2 : ∀ a v, ro a = some v → ro2 a = some v) : HC.ok ro2 c := ⟨h.f, h.l, h.m, fun w hw => (h.wf w hw).up h2, fun w hw => (h.wl w hw).up h2⟩
def hc0 : HC := ⟨0, 0, false, 0, [], [], [], ⟨none, 0, 0⟩, ⟨none, 0, 0⟩, ⟨none, 0, 0⟩, ⟨none, [], 0⟩, ⟨none, [], 0⟩, ⟨none, [], 0⟩⟩
theorem hc0_ok (ro : Addr → Option Value) : HC.ok ro hc0 := ⟨OwnsSl.nil 3, OwnsSl.nil 3, OwnsSl.nil 1, by simp [hc0], by simp [hc0]⟩
def shand0 : SHand := ⟨0, 0, false, 0, [], [], []⟩
def boardE (p bw bh n : Nat) : Ent := ⟨some p, [.slice (some (Addr.mk bw 0 none)) n n, .slice (some (Addr.mk bh 0 none)) n n], 2⟩
def boardL (p bw bh n c1 c2 : Nat) (ws : List CW) (cs : List HC) : List Ent := [boardE p bw bh n, ⟨some bw, ws.flatMap cwV, c1⟩, ⟨some bh, cs.flatMap hcV, c2⟩] ++ cs.flatMap HC.ents
def BoardAt (p : Nat) (b : Board) (L : List Ent) (ro : Addr → Option Value) : Prop :=
  ∃ bw bh n c1 c2 ws cs, L = boardL p bw bh n c1 c2 ws cs ∧ b.words = ws.map (·.1) ∧ b.hands = cs.map HC.abs ∧ ws.length = n ∧ cs.length = n ∧ n ≤ 4 ∧ (∀ w ∈ ws, CW.ok ro w) ∧ ∀ c ∈ cs, HC.ok ro c
theorem BoardAt.up {p : Nat} {b : Board} {L : List Ent} {ro ro2 : Addr → Option Value} (h : BoardAt p b L ro) (h2 : ∀ a v, ro a = some v → ro2 a = some v) : BoardAt p b L ro2 := by
  obtain ⟨bw, bh, n, c1, c2, ws, cs, h1, hw, hh, a1, a2, a3, a4, a5⟩ := h
  exact ⟨bw, bh, n, c1, c2, ws, cs, h1, hw, hh, a1, a2, a3, fun w hw => (a4 w hw).up h2, fun c hc => (a5 c hc).up h2⟩
theorem split_at {α : Type} {l : List α} {i : Nat} {x : α} (h : l[i]? = some x) : l = l.take i ++ x :: l.drop (i + 1) := by
  obtain ⟨hi, hx⟩ := List.getElem?_eq_some_iff.1 h
  subst hx
  rw [← List.drop_eq_getElem_cons hi, List.take_append_drop]
theorem set_split {α : Type} {l : List α} {i : Nat} {x : α} (h : i < l.length) : l.set i x = l.take i ++ x :: l.drop (i + 1) := by
  rw [List.set_eq_take_append_cons_drop, if_pos h]
/-- the board around one hand -/
theorem boardL_at {p bw bh n c1 c2 : Nat} {ws : List CW} {cs : List HC} {i : Nat} {c : HC} (h : cs[i]? = some c) :
    boardL p bw bh n c1 c2 ws cs = ([boardE p bw bh n, ⟨some bw, ws.flatMap cwV, c1⟩, ⟨some bh, cs.flatMap hcV, c2⟩] ++ (cs.take i).flatMap HC.ents) ++ ([c.ef, c.el, c.em] ++ (cs.drop (i + 1)).flatMap HC.ents) := by
  have hs : cs.flatMap HC.ents = (cs.take i).flatMap HC.ents ++ ([c.ef, c.el, c.em] ++ (cs.drop (i + 1)).flatMap HC.ents) := by
    conv => lhs; rw [split_at h]
    simp [HC.ents]
  unfold boardL
  rw [hs]
  simp
theorem boardL_set {p bw bh n c1 c2 : Nat} {ws : List CW} {cs : List HC} {i : Nat} {c : HC} (h : i < cs.length) :
    boardL p bw bh n c1 c2 ws (cs.set i c) = ([boardE p bw bh n, ⟨some bw, ws.flatMap cwV, c1⟩, ⟨some bh, (cs.set i c).flatMap hcV, c2⟩] ++ (cs.take i).flatMap HC.ents) ++ ([c.ef, c.el, c.em] ++ (cs.drop (i + 1)).flatMap HC.ents) := by
  have h2 : (cs.set i c)[i]? = some c := List.getElem?_set_self h
  rw [boardL_at h2]
  congr 2
  · congr 1
    simp [List.take_set]
    exact List.set_eq_of_length_le (by simp; omega)
  · congr 1
    rw [List.drop_set]
    simp

theorem board_new_c {n : Int} {own : List Ent} {ro : Addr → Option Value} {post : Value → H → Prop}
    (h1 : ¬ (1 ≤ n ∧ n ≤ 4) → post (.tuple (List.toArray [.pointer none, errV (eno 79 1)])) ⟨own, ro⟩)
    (h2 : ∀ p L ro', (∀ a v, ro a = some v → ro' a = some v) → BoardAt p ⟨List.replicate n.toNat ⟨0, 0, List.replicate n.toNat 0⟩, List.replicate n.toNat shand0⟩ L ro' → 1 ≤ n → n ≤ 4 → post (.tuple (List.toArray [.pointer (some (Addr.mk p 0 none)), errV none])) ⟨own ++ L, ro'⟩) : SemCall Tryd.prog 26 (List.toArray [.int .i64 n]) ⟨own, ro⟩ post := by
  refine f26_call n _ post (hands_c (fun hc => ⟨_, rfl, VIf_nerr (fun _ => ret (h1 hc)) (nomatch ·)⟩) (fun n1 n2 => ⟨none, rfl, VIf_nnil ?_⟩))
  have ew : ∀ k, repl k [Value.int .i64 0, Value.int .i64 0, Value.slice none 0 0] = (List.replicate k ((⟨0, 0, []⟩, ⟨none, 0, 0⟩) : CW)).flatMap cwV := fun k => repl_rows (f := cwV) ((⟨0, 0, []⟩, ⟨none, 0, 0⟩) : CW) k
  have eh : ∀ k, repl k [Value.int .i64 0, Value.int .i64 0, Value.bool false, Value.int .i64 0, Value.slice none 0 0, Value.slice none 0 0, Value.slice none 0 0] = (List.replicate k hc0).flatMap hcV := fun k => repl_rows (f := hcV) hc0 k
  -- the board begun: some words have what they saw
  refine ⟨fun x h => ∃ r bw bh c1 c2, x = some (Addr.mk r 0 none) ∧ h = ⟨own ++ [boardE r bw bh n.toNat, ⟨some bw, (List.replicate n.toNat ((⟨0, 0, []⟩, ⟨none, 0, 0⟩) : CW)).flatMap cwV, c1⟩, ⟨some bh, (List.replicate n.toNat hc0).flatMap hcV, c2⟩], ro⟩, ?_, ?_⟩
  · rw [ew, eh]
    refine ⟨⟨by omega, by omega, by omega, by omega, fun rw' _ => ⟨by omega, by omega, by omega, by omega, fun rh _ rp _ => ?_⟩⟩, ⟨by omega, by omega, by omega, by omega, fun rh _ => ⟨by omega, by omega, by omega, by omega, fun rw' _ rp _ => ?_⟩⟩⟩
    · simp only [List.append_assoc]
      exact ⟨_, Gh.arr (pm [_, _] [] rfl (List.Perm.refl _)), rp, rw', rh, _, _, rfl, rfl⟩
    · simp only [List.append_assoc]
      exact ⟨_, Gh.arr (pm [_, _] [] rfl (pm [_] [] rfl (List.Perm.refl _))), rp, rw', rh, _, _, rfl, rfl⟩
  rintro _ x h ⟨r, bw, bh, c1, c2, rfl, rfl⟩
  simp only [f26_L1, add_mk', Option.some.injEq, exists_eq_left', Nat.zero_add, Nat.add_zero]
  refine ⟨⟨some (Addr.mk bw 0 none), n.toNat, n.toNat⟩, rdo (boardE r bw bh n.toNat) (by simp) rfl rfl, ?_⟩
  refine ⟨fun h => ∃ (ro' : Addr → Option Value) (ws : List CW), (∀ a v, ro a = some v → ro' a = some v) ∧ h = ⟨own ++ [boardE r bw bh n.toNat, ⟨some bw, ws.flatMap cwV, c1⟩, ⟨some bh, (List.replicate n.toNat hc0).flatMap hcV, c2⟩], ro'⟩ ∧ ws.length = n.toNat ∧ ∀ j : Nat, j < n.toNat → ∃ w, ws[j]? = some w ∧ w.1 = ⟨0, 0, List.replicate n.toNat 0⟩ ∧ CW.ok ro' w,
    ⟨fun m i h => ∃ (ro' : Addr → Option Value) (ws : List CW) (k : Nat), (∀ a v, ro a = some v → ro' a = some v) ∧ h = ⟨own ++ [boardE r bw bh n.toNat, ⟨some bw, ws.flatMap cwV, c1⟩, ⟨some bh, (List.replicate n.toNat hc0).flatMap hcV, c2⟩], ro'⟩ ∧ ws.length = n.toNat ∧ (∀ j : Nat, j < k → ∃ w, ws[j]? = some w ∧ w.1 = ⟨0, 0, List.replicate n.toNat 0⟩ ∧ CW.ok ro' w) ∧ (∀ j : Nat, k ≤ j → j < n.toNat → ws[j]? = some (⟨0, 0, []⟩, ⟨none, 0, 0⟩)) ∧ i = k ∧ k ≤ n.toNat ∧ m = n.toNat - k,
      ⟨n.toNat, gi ⟨ro, _, 0, fun _ _ h => h, rfl, by simp, fun j hj => by omega, fun j _ hj => by rw [List.getElem?_replicate, if_pos hj], rfl, by omega, rfl⟩⟩, ?_⟩, ?_⟩
  · rintro m _ i h ⟨ro', ws, k, hro, rfl, hwl, hw1, hw2, rfl, hk, rfl⟩
    refine VIf_dec (fun hi => ?_) (fun hi => gi ⟨ro', ws, hro, rfl, hwl, fun j hj => hw1 j (by dsimp only at hi; omega)⟩)
    dsimp only at hi
    have hwk := hw2 k (Nat.le_refl _) (by omega)
    refine ⟨fun h => ∃ ro2 ws2, (∀ a v, ro' a = some v → ro2 a = some v) ∧ h = ⟨own ++ [boardE r bw bh n.toNat, ⟨some bw, ws2.flatMap cwV, c1⟩, ⟨some bh, (List.replicate n.toNat hc0).flatMap hcV, c2⟩], ro2⟩ ∧ ∃ w, ws2 = ws.set k w ∧ w.1 = ⟨0, 0, List.replicate n.toNat 0⟩ ∧ CW.ok ro2 w, ?_, ?_⟩
    · have step : ∀ r2, H.fresh ⟨own ++ [boardE r bw bh n.toNat, ⟨some bw, ws.flatMap cwV, c1⟩, ⟨some bh, (List.replicate n.toNat hc0).flatMap hcV, c2⟩], ro'⟩ r2 → ∀ (R : H → Prop), (∀ ro2 w, (∀ a v, ro' a = some v → ro2 a = some v) → w.1 = ⟨0, 0, List.replicate n.toNat 0⟩ → CW.ok ro2 w → R ⟨own ++ [boardE r bw bh n.toNat, ⟨some bw, (ws.set k w).flatMap cwV, c1⟩, ⟨some bh, (List.replicate n.toNat hc0).flatMap hcV, c2⟩], ro2⟩) →
          ∃ b : Addr, some (Addr.mk bw 0 none) = some b ∧ (0 : Int) ≤ (k : Int) ∧ (k : Int) < ((n.toNat : Nat) : Int) ∧ H.wr ⟨own ++ [boardE r bw bh n.toNat, ⟨some bw, ws.flatMap cwV, c1⟩, ⟨some bh, (List.replicate n.toNat hc0).flatMap hcV, c2⟩] ++ [⟨some r2, ints (List.replicate n.toNat 0), (ints (List.replicate n.toNat 0)).length⟩], ro'⟩ (Addr.add (Addr.add b ((k : Int).toNat * 3)) 2) [.slice (some (Addr.mk r2 0 none)) n.toNat n.toNat] fun h => ∃ h2, Gh h h2 ∧ R h2 := by
        intro r2 hf R hR
        refine ⟨_, rfl, by omega, by omega, ?_⟩
        simp only [add_mk', Nat.zero_add, Int.toNat_natCast]
        have hop : OwnsSl 1 ⟨some (Addr.mk r2 0 none), n.toNat, n.toNat⟩ ⟨some r2, ints (List.replicate n.toNat 0), (ints (List.replicate n.toNat 0)).length⟩ (ints (List.replicate n.toNat 0)) := OwnsSl.at0 1 (by simp) (by simp) (by simp only [maxLen]; omega)
        refine wr_rows cwV_len (own ++ [boardE r bw bh n.toNat]) ⟨some bw, ws.flatMap cwV, c1⟩ [⟨some bh, (List.replicate n.toNat hc0).flatMap hcV, c2⟩, ⟨some r2, ints (List.replicate n.toNat 0), (ints (List.replicate n.toNat 0)).length⟩] ((⟨0, 0, List.replicate n.toNat 0⟩, ⟨some (Addr.mk r2 0 none), n.toNat, n.toNat⟩) : CW) ⟨rfl, trivial⟩ (by simp) rfl rfl hwk (j := 2) rfl (by simp) rfl ?_
        have hfr : ∀ a v, ro' a = some v → (⟨some r2, ints (List.replicate n.toNat 0), (ints (List.replicate n.toNat 0)).length⟩ : Ent).id ≠ some a.block := fun a v hv hid => hf.2 a v hv (Option.some.inj hid).symm
        have g := Gh.freeze (own ++ [boardE r bw bh n.toNat, ⟨some bw, (ws.set k ((⟨0, 0, List.replicate n.toNat 0⟩, ⟨some (Addr.mk r2 0 none), n.toNat, n.toNat⟩) : CW)).flatMap cwV, c1⟩, ⟨some bh, (List.replicate n.toNat hc0).flatMap hcV, c2⟩]) [] ro' ⟨some r2, ints (List.replicate n.toNat 0), (ints (List.replicate n.toNat 0)).length⟩ hfr
        refine ⟨_, ?_, hR (Go.Eng.frozen ⟨some r2, ints (List.replicate n.toNat 0), (ints (List.replicate n.toNat 0)).length⟩ ro') ((⟨0, 0, List.replicate n.toNat 0⟩, ⟨some (Addr.mk r2 0 none), n.toNat, n.toNat⟩) : CW) (frozen_mono hfr) rfl ⟨RdSl.frozen hop, by simp; omega⟩⟩
        simpa using g
      refine ⟨⟨⟨some (Addr.mk bw 0 none), n.toNat, n.toNat⟩, rdo (boardE r bw bh n.toNat) (by simp) rfl rfl, by omega, by omega, by omega, by omega, fun r2 hf => ?_⟩, ⟨by omega, by omega, by omega, by omega, fun r2 hf => ⟨⟨some (Addr.mk bw 0 none), n.toNat, n.toNat⟩, rdo (boardE r bw bh n.toNat) (by simp) rfl rfl, ?_⟩⟩⟩ <;>
      · rw [repl_ints]
        exact step r2 hf _ (fun ro2 w a1 a2 a3 => ⟨ro2, _, a1, rfl, w, rfl, a2, a3⟩)
    · rintro _ h ⟨ro2, ws2, hro2, rfl, w, rfl, hw0, hwok⟩
      refine ⟨⟨by omega, by omega⟩, n.toNat - (k + 1), by omega, gi ⟨ro2, _, k + 1, fun a v h => hro2 a v (hro a v h), rfl, by simpa using hwl, fun j hj => ?_, fun j h1 h2 => ?_, by omega, by omega, rfl⟩⟩
      · by_cases hjk : j = k
        · subst hjk; exact ⟨w, List.getElem?_set_self (by omega), hw0, hwok⟩
        · obtain ⟨w', b1, b2, b3⟩ := hw1 j (by omega)
          exact ⟨w', by rw [List.getElem?_set_ne (fun h => hjk h.symm)]; exact b1, b2, b3.up hro2⟩
      · rw [List.getElem?_set_ne (by omega)]; exact hw2 j (by omega) h2
  · rintro _ h ⟨ro', ws, hro, rfl, hwl, hw⟩
    have hph : ∀ k (own : List Ent), Gh ⟨own, ro'⟩ ⟨own ++ (List.replicate k hc0).flatMap HC.ents, ro'⟩ := by
      intro k
      induction k with
      | zero => intro own; simpa using Gh.refl _
      | succ k ih =>
        intro own
        rw [List.replicate_succ, List.flatMap_cons]
        have g1 := Gh.phantom own [] ro' 0
        have g2 := Gh.phantom (own ++ [⟨none, [], 0⟩]) [] ro' 0
        have g3 := Gh.phantom (own ++ [⟨none, [], 0⟩] ++ [⟨none, [], 0⟩]) [] ro' 0
        simp only [List.append_nil] at g1 g2 g3
        have g4 := ih (own ++ [⟨none, [], 0⟩] ++ [⟨none, [], 0⟩] ++ [⟨none, [], 0⟩])
        have := ((g1.trans g2).trans g3).trans g4
        simpa [HC.ents, hc0] using this
    refine ⟨_, hph n.toNat _, ?_⟩
    rw [List.append_assoc]
    refine h2 r _ ro' hro ⟨bw, bh, n.toNat, c1, c2, ws, List.replicate n.toNat hc0, rfl, ?_, ?_, hwl, by simp, by omega, fun w hw' => ?_, fun c hc => ?_⟩ n1 n2
    · refine List.ext_getElem? (fun j => ?_)
      rw [List.getElem?_map, List.getElem?_replicate]
      split
      · rename_i hj
        obtain ⟨w, b1, b2, _⟩ := hw j hj
        rw [b1]; simp [b2]
      · rw [List.getElem?_eq_none (by omega)]; rfl
    · simp [HC.abs, hc0, shand0]
    · obtain ⟨j, hj⟩ := List.mem_iff_getElem?.1 hw'
      have hjl := (List.getElem?_eq_some_iff.1 hj).1
      obtain ⟨w', b1, b2, b3⟩ := hw j (by omega)
      rw [hj] at b1; cases b1; exact b3
    · simp at hc; rw [hc.2]; exact hc0_ok ro'
end Go.Proofs.YtnecppjgcbhnaaaDoor
