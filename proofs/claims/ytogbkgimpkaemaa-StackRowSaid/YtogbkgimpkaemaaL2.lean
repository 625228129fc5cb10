import Derived.Test.YtogbkgimpkaemaaL1
import Derived.Test.YtogbkgimpkaemaaIn
namespace Go.Proofs.Ytogbkgimpkaemaa
open Go.Eng
set_option maxRecDepth 20000
/-! ### what objects do, and undo -/
theorem lin_do_meth0 : methodAt Try.prog 91 "latchgarth/lin.do" = some 59 := by kernel_rfl
theorem lin_do_meth1 : methodAt Try.prog 94 "latchgarth/lin.do" = some 62 := by kernel_rfl
theorem lin_do_meth2 : methodAt Try.prog 99 "latchgarth/lin.do" = some 65 := by kernel_rfl
theorem lin_un_meth0 : methodAt Try.prog 91 "latchgarth/lin.undo" = some 60 := by kernel_rfl
theorem lin_un_meth1 : methodAt Try.prog 94 "latchgarth/lin.undo" = some 63 := by kernel_rfl
theorem lin_un_meth2 : methodAt Try.prog 99 "latchgarth/lin.undo" = some 66 := by kernel_rfl
theorem obj_do {k : Int} {r : Nat} {st : List Int} {n : Nat} {o : LOp} {L own : List Ent} {ro : Addr → Option Value} {K : Value → H → Prop} (A C : List Ent) (hown : own = A ++ (L ++ C)) (hs : ObjAt k r st L) (hb : LSt k st n) (hn : n ≤ 100) (k0 : 0 ≤ k) (k2 : k ≤ 2) (a0 : 0 ≤ o.arg) (a1 : o.arg ≤ 1000)
    (hk : ∀ L', ObjAt k r (lgo k st o) L' → K (.int .i64 (lgot k st o)) ⟨A ++ (L' ++ C), ro⟩) :
    InvVC Try.prog (errV (some (objT k, .pointer (some (Addr.mk r 0 none))))) "latchgarth/lin.do" [.agg (List.toArray (lopV o))] ⟨own, ro⟩ K := by
  have core : ∀ {f : FuncId}, methodAt Try.prog (objT k) "latchgarth/lin.do" = some f → bodied Try.prog f = true → (∀ post' : Value → H → Prop, (∀ L', ObjAt k r (lgo k st o) L' → post' (.int .i64 (lgot k st o)) ⟨L', ro⟩) → SemCall Try.prog f (List.toArray [.pointer (some (Addr.mk r 0 none)), .agg (List.toArray (lopV o))]) ⟨L, ro⟩ post') →
      InvVC Try.prog (errV (some (objT k, .pointer (some (Addr.mk r 0 none))))) "latchgarth/lin.do" [.agg (List.toArray (lopV o))] ⟨own, ro⟩ K := fun hm hf loc => ⟨_, _, _, rfl, hm, hf, lift A C hown loc hk⟩
  clear hk
  rcases hs with ⟨rfl, x, rfl, rfl⟩ | ⟨hk0, s, e, rfl, ho⟩
  · refine core lin_do_meth0 (by kernel_rfl) (fun post hk => ?_)
    have hx := hb.c rfl
    have hx : 0 ≤ x ∧ x ≤ 1000 * n := hx
    refine f59_call _ _ _ _ _ _ _ _ post ?_
    intro r1 _
    simp only [add_mk', Option.some.injEq, exists_eq_left', Nat.zero_add, Nat.add_zero]
    refine ⟨x, rdo ⟨some r, [.int .i64 x], 1⟩ (by simp) rfl rfl, o.kind, rdo ⟨some r1, lopV o, 6⟩ (by simp [lopV]) rfl rfl, VIf_eq (fun hz => ?_) (fun hz => ?_)⟩
    · refine ⟨x, rdo ⟨some r, [.int .i64 x], 1⟩ (by simp) rfl rfl, o.arg, rdo ⟨some r1, lopV o, 6⟩ (by simp [lopV]) rfl rfl, ⟨by omega, by omega⟩, ?_⟩
      refine wro [] ⟨some r, [.int .i64 x], 1⟩ [⟨some r1, lopV o, 6⟩] ⟨rfl, trivial⟩ rfl rfl (by simp) ?_
      have h1 : lgo 0 [x] o = [x + o.arg] := by simp [lgo, lget, hz, gI]
      have h2 : lgot 0 [x] o = x := by simp [lgot, lget, gI]
      rw [h1, h2] at hk
      exact ⟨⟨[⟨some r, [.int .i64 (x + o.arg)], 1⟩], ro⟩, Gh.drop (by simp [spl]), hk _ (.inl ⟨rfl, _, rfl, rfl⟩)⟩
    · have h1 : lgo 0 [x] o = [x] := by simp [lgo, lget, hz]
      have h2 : lgot 0 [x] o = x := by simp [lgot, lget, gI]
      rw [h1, h2] at hk
      exact ⟨⟨[⟨some r, [.int .i64 x], 1⟩], ro⟩, Gh.drop (by simp), hk _ (.inl ⟨rfl, _, rfl, rfl⟩)⟩
  · obtain ⟨hl, hp⟩ := hb.l hk0
    have hsl := ho.sl_len
    rw [ints_length] at hsl
    have hcl := ho.cap_le
    rcases (by omega : k = 1 ∨ k = 2) with rfl | rfl
    · refine core lin_do_meth1 (by kernel_rfl) (fun post hk => ?_)
      refine f62_call _ _ _ _ _ _ _ _ post ?_
      intro r1 _
      have m1 : (⟨some r1, lopV o, 6⟩ : Ent) ∈ [⟨some r, [.slice s.a s.len s.cap], 1⟩, e] ++ [⟨some r1, lopV o, 6⟩] := by simp
      have m2 : (⟨some r, [.slice s.a s.len s.cap], 1⟩ : Ent) ∈ [⟨some r, [.slice s.a s.len s.cap], 1⟩, e] ++ [⟨some r1, lopV o, 6⟩] := by simp
      simp only [add_mk', Option.some.injEq, exists_eq_left', Nat.zero_add, Nat.add_zero]
      refine ⟨o.kind, rdo _ m1 rfl rfl, VIf_eq (fun hz => ?_) (fun hz => ?_)⟩
      · refine ⟨_, rdo _ m1 rfl rfl, _, rdo _ m1 rfl rfl, _, rdo _ m1 rfl rfl, _, rdo _ m1 rfl rfl, _, rdo _ m1 rfl rfl, _, rdo _ m1 rfl rfl, ?_⟩
        have h1 : lgo 1 st o = st ++ [o.arg] := by simp [lgo, lget, hz]
        have h2 : lgot 1 st o = -1 := by simp [lgot, lget, hz]
        rw [h1, h2] at hk
        exact pile_in_c (o := o) [] e [⟨some r1, lopV o, 6⟩] rfl ho (by omega) (fun s' e' o' => ⟨rfl, ⟨_, Gh.drop (by simp), hk [⟨some r, [.slice s'.a s'.len s'.cap], 1⟩, e'] (.inr ⟨hk0, s', e', rfl, o'⟩)⟩⟩)
      · refine ⟨s, rdo _ m2 rfl rfl, VIf_eq (fun hz2 => ?_) (fun hz2 => ?_)⟩
        · have h1 : lgo 1 st o = st := by simp [lgo, lget, hz, show st.length = 0 by omega]
          have h2 : lgot 1 st o = -1 := by simp [lgot, lget, hz, show st.length = 0 by omega]
          rw [h1, h2] at hk
          exact ⟨_, Gh.drop (by simp), hk [⟨some r, [.slice s.a s.len s.cap], 1⟩, e] (.inr ⟨hk0, s, e, rfl, ho⟩)⟩
        · have h1 : lgo 1 st o = st.take (st.length - 1) := by simp only [lgo, lget]; rw [if_neg (by decide), if_neg hz, if_neg (by omega), if_pos trivial]
          have h2 : lgot 1 st o = gI st (st.length - 1) := by simp only [lgot, lget]; rw [if_neg (by decide), if_neg hz, if_neg (by omega), if_pos trivial]
          rw [h1, h2] at hk
          refine ⟨s, rdo _ m2 rfl rfl, s, rdo _ m2 rfl rfl, ⟨by omega, by omega⟩, ?_⟩
          have hrd : RdSl ⟨[⟨some r, [.slice s.a s.len s.cap], 1⟩, e] ++ [⟨some r1, lopV o, 6⟩], ro⟩ s (ints st) := RdSl.of_own (e := e) (by simp) ho
          refine hrd.idx (by omega) (by omega) (fun y hy => ?_)
          have hy2 : y = gI st (st.length - 1) := by
            rw [show (((s.len : Nat) : Int) - 1).toNat = st.length - 1 by omega] at hy
            exact (gI_at hy).symm
          refine pile_cut_c [] e [⟨some r1, lopV o, 6⟩] rfl ho (by omega) (by omega) (fun s' e' o' => ⟨rfl, ⟨⟨[⟨some r, [.slice s'.a s'.len s'.cap], 1⟩, e'], ro⟩, Gh.drop (by simp), ?_⟩⟩)
          rw [hy2]
          exact hk [⟨some r, [.slice s'.a s'.len s'.cap], 1⟩, e'] (.inr ⟨hk0, s', e', rfl, o'⟩)
    · refine core lin_do_meth2 (by kernel_rfl) (fun post hk => ?_)
      refine f65_call _ _ _ _ _ _ _ _ post ?_
      intro r1 _
      have m1 : (⟨some r1, lopV o, 6⟩ : Ent) ∈ [⟨some r, [.slice s.a s.len s.cap], 1⟩, e] ++ [⟨some r1, lopV o, 6⟩] := by simp
      have m2 : (⟨some r, [.slice s.a s.len s.cap], 1⟩ : Ent) ∈ [⟨some r, [.slice s.a s.len s.cap], 1⟩, e] ++ [⟨some r1, lopV o, 6⟩] := by simp
      simp only [add_mk', Option.some.injEq, exists_eq_left', Nat.zero_add, Nat.add_zero]
      refine ⟨o.kind, rdo _ m1 rfl rfl, VIf_eq (fun hz => ?_) (fun hz => ?_)⟩
      · refine ⟨_, rdo _ m1 rfl rfl, _, rdo _ m1 rfl rfl, _, rdo _ m1 rfl rfl, _, rdo _ m1 rfl rfl, _, rdo _ m1 rfl rfl, _, rdo _ m1 rfl rfl, ?_⟩
        have h1 : lgo 2 st o = st ++ [o.arg] := by simp [lgo, lget, hz]
        have h2 : lgot 2 st o = -1 := by simp [lgot, lget, hz]
        rw [h1, h2] at hk
        exact pile_in_c (o := o) [] e [⟨some r1, lopV o, 6⟩] rfl ho (by omega) (fun s' e' o' => ⟨rfl, ⟨_, Gh.drop (by simp), hk [⟨some r, [.slice s'.a s'.len s'.cap], 1⟩, e'] (.inr ⟨hk0, s', e', rfl, o'⟩)⟩⟩)
      · refine ⟨s, rdo _ m2 rfl rfl, VIf_eq (fun hz2 => ?_) (fun hz2 => ?_)⟩
        · have h1 : lgo 2 st o = st := by simp [lgo, lget, hz, show st.length = 0 by omega]
          have h2 : lgot 2 st o = -1 := by simp [lgot, lget, hz, show st.length = 0 by omega]
          rw [h1, h2] at hk
          exact ⟨_, Gh.drop (by simp), hk [⟨some r, [.slice s.a s.len s.cap], 1⟩, e] (.inr ⟨hk0, s, e, rfl, ho⟩)⟩
        · have h1 : lgo 2 st o = st.drop 1 := by simp only [lgo, lget]; rw [if_neg (by decide), if_neg hz, if_neg (by omega), if_neg (by decide)]
          have h2 : lgot 2 st o = gI st 0 := by simp only [lgot, lget]; rw [if_neg (by decide), if_neg hz, if_neg (by omega), if_neg (by decide)]
          rw [h1, h2] at hk
          refine ⟨s, rdo _ m2 rfl rfl, ?_⟩
          have hrd : RdSl ⟨[⟨some r, [.slice s.a s.len s.cap], 1⟩, e] ++ [⟨some r1, lopV o, 6⟩], ro⟩ s (ints st) := RdSl.of_own (e := e) (by simp) ho
          refine hrd.idx (i := 0) (by omega) (by omega) (fun y hy => ?_)
          have hy2 : y = gI st 0 := (gI_at hy).symm
          refine ⟨s, rdo _ m2 rfl rfl, by omega, by omega, ?_⟩
          have hdr := hrd.drop (n := 1) (by omega) hcl
          rw [show (ints st).drop 1 = ints (st.drop 1) by simp [ints, List.map_drop]] at hdr
          refine clone_c (s := ⟨if s.cap = (1 : Int).toNat then s.a else Option.map (fun z => Addr.add z ((1 : Int).toNat * 1)) s.a, s.len - (1 : Int).toNat, s.cap - (1 : Int).toNat⟩) hdr (by dsimp only; omega) (fun s' e' o' => ⟨s', rfl, ?_⟩)
          refine wro [] ⟨some r, [.slice s.a s.len s.cap], 1⟩ [e, ⟨some r1, lopV o, 6⟩, e'] ⟨rfl, trivial⟩ (by simp [lopV]) rfl (by simp) ?_
          refine ⟨⟨[⟨some r, [.slice s'.a s'.len s'.cap], 1⟩, e'], ro⟩, Gh.drop (by simp [spl]), ?_⟩
          rw [hy2]
          exact hk [⟨some r, [.slice s'.a s'.len s'.cap], 1⟩, e'] (.inr ⟨hk0, s', e', rfl, o'⟩)
theorem lgot_ge {k : Int} {st : List Int} {o : LOp} (hk : k ≠ 0) (hz : o.kind ≠ 0) (hp : ∀ x ∈ st, 0 ≤ x) : (0 ≤ lgot k st o) ↔ st.length ≠ 0 := by
  simp only [lgot, lget]
  rw [if_neg hk, if_neg hz]
  have g : ∀ i, i < st.length → 0 ≤ gI st i := fun i hi => by
    obtain ⟨x, hx⟩ : ∃ x, st[i]? = some x := ⟨_, List.getElem?_eq_getElem hi⟩
    rw [gI_at hx]
    exact hp x (List.mem_of_getElem? hx)
  split
  · simp [*]
  · split
    · exact ⟨fun _ => by assumption, fun _ => g _ (by omega)⟩
    · exact ⟨fun _ => by assumption, fun _ => g _ (by omega)⟩
theorem obj_undo {k : Int} {r : Nat} {st : List Int} {n : Nat} {o : LOp} {L own : List Ent} {ro : Addr → Option Value} {K : Value → H → Prop} (A C : List Ent) (hown : own = A ++ (L ++ C)) (hs : ObjAt k r (lgo k st o) L) (hb : LSt k st n) (hn : n ≤ 100) (k0 : 0 ≤ k) (k2 : k ≤ 2) (h1s : k = 0 → ∃ x, st = [x])
    (hk : ∀ L', ObjAt k r st L' → K (.tuple (List.toArray [])) ⟨A ++ (L' ++ C), ro⟩) :
    InvVC Try.prog (errV (some (objT k, .pointer (some (Addr.mk r 0 none))))) "latchgarth/lin.undo" [.agg (List.toArray (lopV o)), .int .i64 (lgot k st o)] ⟨own, ro⟩ K := by
  have core : ∀ {f : FuncId}, methodAt Try.prog (objT k) "latchgarth/lin.undo" = some f → bodied Try.prog f = true → (∀ post' : Value → H → Prop, (∀ L', ObjAt k r st L' → post' (.tuple (List.toArray [])) ⟨L', ro⟩) → SemCall Try.prog f (List.toArray [.pointer (some (Addr.mk r 0 none)), .agg (List.toArray (lopV o)), .int .i64 (lgot k st o)]) ⟨L, ro⟩ post') →
      InvVC Try.prog (errV (some (objT k, .pointer (some (Addr.mk r 0 none))))) "latchgarth/lin.undo" [.agg (List.toArray (lopV o)), .int .i64 (lgot k st o)] ⟨own, ro⟩ K := fun hm hf loc => ⟨_, _, _, rfl, hm, hf, lift A C hown loc hk⟩
  clear hk
  rcases hs with ⟨rfl, x, hx, rfl⟩ | ⟨hk0, s, e, rfl, ho⟩
  · refine core lin_un_meth0 (by kernel_rfl) (fun post hk => ?_)
    obtain ⟨y, rfl⟩ := h1s rfl
    refine f60_call _ _ _ _ _ _ _ _ _ post ?_
    intro r1 _
    simp only [add_mk', Option.some.injEq, exists_eq_left', Nat.zero_add, Nat.add_zero]
    refine wro [] ⟨some r, [.int .i64 x], 1⟩ [⟨some r1, lopV o, 6⟩] ⟨rfl, trivial⟩ rfl rfl (by simp) ?_
    exact ⟨⟨[⟨some r, [.int .i64 y], 1⟩], ro⟩, Gh.drop (by simp [spl, lgot, lget, gI]), hk _ (.inl ⟨rfl, _, rfl, rfl⟩)⟩
  · obtain ⟨hl, hp⟩ := hb.l hk0
    have hsl := ho.sl_len
    rw [ints_length] at hsl
    have hcl := ho.cap_le
    have hlen : (lgo k st o).length ≤ st.length + 1 := by
      simp only [lgo, lget]
      rw [if_neg hk0]
      split
      · simp
      · split
        · exact Nat.le_succ _
        · split <;> simp <;> omega
    have gi0 : o.kind = 0 → lgo k st o = st ++ [o.arg] := fun hz => by simp only [lgo, lget]; rw [if_neg hk0, if_pos hz]
    have gi1 : o.kind ≠ 0 → st.length = 0 → lgo k st o = st := fun hz h => by simp only [lgo, lget]; rw [if_neg hk0, if_neg hz, if_pos h]
    have hge := fun hz => lgot_ge (k := k) (st := st) (o := o) hk0 hz hp
    rcases (by omega : k = 1 ∨ k = 2) with rfl | rfl
    · refine core lin_un_meth1 (by kernel_rfl) (fun post hk => ?_)
      refine f63_call _ _ _ _ _ _ _ _ _ post ?_
      intro r1 _
      have m1 : (⟨some r1, lopV o, 6⟩ : Ent) ∈ [⟨some r, [.slice s.a s.len s.cap], 1⟩, e] ++ [⟨some r1, lopV o, 6⟩] := by simp
      have m2 : (⟨some r, [.slice s.a s.len s.cap], 1⟩ : Ent) ∈ [⟨some r, [.slice s.a s.len s.cap], 1⟩, e] ++ [⟨some r1, lopV o, 6⟩] := by simp
      simp only [add_mk', Option.some.injEq, exists_eq_left', Nat.zero_add, Nat.add_zero]
      refine ⟨o.kind, rdo _ m1 rfl rfl, VIf_eq (fun hz => ?_) (fun hz => VIf_dec (fun hz2 => ?_) (fun hz2 => ?_))⟩
      · rw [gi0 hz] at ho
        refine pile_cut_c [] e [⟨some r1, lopV o, 6⟩] rfl ho (by rw [gi0 hz] at hsl; simp at hsl; omega) (by simp) (fun s' e' o' => ⟨rfl, ⟨_, Gh.drop (by simp), hk [⟨some r, [.slice s'.a s'.len s'.cap], 1⟩, e'] (.inr ⟨hk0, s', e', rfl, ?_⟩)⟩⟩)
        simpa using o'
      · have hne := (hge hz).1 hz2
        have e1 : lgo 1 st o = st.take (st.length - 1) := by simp only [lgo, lget]; rw [if_neg (by decide), if_neg hz, if_neg hne, if_pos trivial]
        have e2 : lgot 1 st o = gI st (st.length - 1) := by simp only [lgot, lget]; rw [if_neg (by decide), if_neg hz, if_neg hne, if_pos trivial]
        rw [e1] at ho hsl
        refine ⟨s, rdo _ m2 rfl rfl, ?_⟩
        refine app_row grows_ints (vs := [.int .i64 (lgot 1 st o)]) rfl ⟨rfl, trivial⟩ [⟨some r, [.slice s.a s.len s.cap], 1⟩] e [⟨some r1, lopV o, 6⟩] rfl ho (by simp at hsl; omega) (fun s' e' o' _ => ?_)
        refine wro [] ⟨some r, [.slice s.a s.len s.cap], 1⟩ [e', ⟨some r1, lopV o, 6⟩] ⟨rfl, trivial⟩ rfl rfl (by simp) ?_
        refine ⟨⟨[⟨some r, [.slice s'.a s'.len s'.cap], 1⟩, e'], ro⟩, Gh.drop (by simp [spl]), hk _ (.inr ⟨hk0, s', e', rfl, ?_⟩)⟩
        have e3 : st = st.take (st.length - 1) ++ [gI st (st.length - 1)] := by
          have h1 := List.take_add_one (l := st) (i := st.length - 1)
          rw [show st.length - 1 + 1 = st.length by omega, List.take_length] at h1
          have h2 : st[st.length - 1]? = some (gI st (st.length - 1)) := by
            unfold gI
            rw [List.getElem?_eq_getElem (by omega)]; rfl
          rw [h2] at h1
          exact h1
        have e4 : ints st = ints (st.take (st.length - 1)) ++ [.int .i64 (lgot 1 st o)] := by
          rw [e2]
          conv => lhs; rw [e3]
          simp [ints, intV]
        rw [e4]
        exact o'
      · have hz0 : st.length = 0 := Classical.byContradiction fun h => hz2 ((hge hz).2 h)
        rw [gi1 hz hz0] at ho
        exact ⟨_, Gh.drop (by simp), hk [⟨some r, [.slice s.a s.len s.cap], 1⟩, e] (.inr ⟨hk0, s, e, rfl, ho⟩)⟩
    · refine core lin_un_meth2 (by kernel_rfl) (fun post hk => ?_)
      refine f66_call _ _ _ _ _ _ _ _ _ post ?_
      intro r1 _
      have m1 : (⟨some r1, lopV o, 6⟩ : Ent) ∈ [⟨some r, [.slice s.a s.len s.cap], 1⟩, e] ++ [⟨some r1, lopV o, 6⟩] := by simp
      have m2 : (⟨some r, [.slice s.a s.len s.cap], 1⟩ : Ent) ∈ [⟨some r, [.slice s.a s.len s.cap], 1⟩, e] ++ [⟨some r1, lopV o, 6⟩] := by simp
      simp only [add_mk', Option.some.injEq, exists_eq_left', Nat.zero_add, Nat.add_zero]
      refine ⟨o.kind, rdo _ m1 rfl rfl, VIf_eq (fun hz => ?_) (fun hz => VIf_dec (fun hz2 => ?_) (fun hz2 => ?_))⟩
      · rw [gi0 hz] at ho
        refine pile_cut_c [] e [⟨some r1, lopV o, 6⟩] rfl ho (by rw [gi0 hz] at hsl; simp at hsl; omega) (by simp) (fun s' e' o' => ⟨rfl, ⟨_, Gh.drop (by simp), hk [⟨some r, [.slice s'.a s'.len s'.cap], 1⟩, e'] (.inr ⟨hk0, s', e', rfl, ?_⟩)⟩⟩)
        simpa using o'
      · have hne := (hge hz).1 hz2
        have e1 : lgo 2 st o = st.drop 1 := by simp only [lgo, lget]; rw [if_neg (by decide), if_neg hz, if_neg hne, if_neg (by decide)]
        have e2 : lgot 2 st o = gI st 0 := by simp only [lgot, lget]; rw [if_neg (by decide), if_neg hz, if_neg hne, if_neg (by decide)]
        rw [e1] at ho hsl
        refine ⟨s, rdo _ m2 rfl rfl, ?_⟩
        intro r9 hf9
        refine insert0_c [⟨some r, [.slice s.a s.len s.cap], 1⟩] e [⟨some r1, lopV o, 6⟩, ⟨some r9, [.int .i64 (lgot 2 st o)], 1⟩] (r9 := r9) (v := lgot 2 st o) (by simp [lopV]) (by simp) ho (by simp at hsl; omega) (fun s' e' o' => ⟨s', rfl, ?_⟩)
        refine wro [] ⟨some r, [.slice s.a s.len s.cap], 1⟩ [e', ⟨some r1, lopV o, 6⟩, ⟨some r9, [.int .i64 (lgot 2 st o)], 1⟩] ⟨rfl, trivial⟩ rfl rfl (by simp) ?_
        refine ⟨⟨[⟨some r, [.slice s'.a s'.len s'.cap], 1⟩, e'], ro⟩, Gh.drop (by simp [spl]), hk _ (.inr ⟨hk0, s', e', rfl, ?_⟩)⟩
        have e3 : st = gI st 0 :: st.drop 1 := by
          cases st with
          | nil => exact absurd rfl hne
          | cons x l => rfl
        rw [e3, ← e2]
        exact o'
      · have hz0 : st.length = 0 := Classical.byContradiction fun h => hz2 ((hge hz).2 h)
        rw [gi1 hz hz0] at ho
        exact ⟨_, Gh.drop (by simp), hk [⟨some r, [.slice s.a s.len s.cap], 1⟩, e] (.inr ⟨hk0, s, e, rfl, ho⟩)⟩
end Go.Proofs.Ytogbkgimpkaemaa
