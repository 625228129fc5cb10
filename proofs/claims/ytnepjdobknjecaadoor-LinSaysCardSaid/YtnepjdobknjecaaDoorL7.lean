import Derived.Test.YtnepjdobknjecaaDoorL6
import Derived.Test.YtnepjdobknjecaaDoorEngL
namespace Go.Proofs.YtnepjdobknjecaaDoor
open Go.Eng
set_option maxRecDepth 20000
/-! ### what an op gets -/
theorem gets_c {k : Int} {o : LOp} {s : SV} {st : List Int} {own : List Ent} {ro : Addr → Option Value} {post : Value → H → Prop} (hr : RdSl ⟨[], ro⟩ s (ints st)) (hcap : s.len ≤ s.cap) (hn : s.len ≤ 1000000) (h0 : k = 0 → ∃ z, st = [z]) (hin : k = 0 → In64 (gI st 0 + o.arg))
    (hk : ∀ (s' : SV) ro', (∀ a v, ro a = some v → ro' a = some v) → RdSl ⟨[], ro'⟩ s' (ints (lgo k st o)) → s'.len ≤ s'.cap → post (.tuple (List.toArray [.slice s'.a s'.len s'.cap, .int .i64 (lgot k st o)])) ⟨own, ro'⟩) :
    SemCall Tryd.prog 46 (List.toArray [.int .i64 k, .slice s.a s.len s.cap, .agg (List.toArray (lopV o))]) ⟨own, ro⟩ post := by
  refine f46_call k s o.hand o.kind o.arg o.got o.frm o.too _ post ?_
  have hl := hr.len
  rw [ints_length] at hl
  intro r1 _
  simp only [add_mk', Nat.zero_add, Nat.add_zero]
  obtain ⟨E, hE⟩ : ∃ E : Ent, E = ⟨some r1, lopV o, 6⟩ := ⟨_, rfl⟩
  have hEE : (⟨some r1, [Value.int .i64 o.hand, .int .i64 o.kind, .int .i64 o.arg, .int .i64 o.got, .int .i64 o.frm, .int .i64 o.too], List.length [Value.int .i64 o.hand, .int .i64 o.kind, .int .i64 o.arg, .int .i64 o.got, .int .i64 o.frm, .int .i64 o.too]⟩ : Ent) = E := by rw [hE]; rfl
  rw [hEE]
  have hEr : ∀ {own : List Ent} {ro : Addr → Option Value} (q : Nat) (v : Value), E ∈ own → (lopV o)[q]? = some v → H.rd ⟨own, ro⟩ (Addr.mk r1 q none) v := fun q v hm hv => rdo E hm (by rw [hE]) (by rw [hE]; exact hv)
  have hru : ∀ {own : List Ent}, RdSl ⟨own, ro⟩ s (ints st) := fun {own} => hr.ro
  have same : ∀ {g : Int}, lgo k st o = st → lgot k st o = g → VRet ⟨own ++ [E], ro⟩ (.tuple (List.toArray [.slice s.a s.len s.cap, .int .i64 g])) post := fun e1 e2 => by
    refine ⟨⟨own, ro⟩, Gh.drop (by simp), ?_⟩
    have := hk s ro (fun _ _ h => h) (by rw [e1]; exact hr) hcap
    rw [e2] at this
    exact this
  have fresh : ∀ {s' : SV} {e' : Ent} {g : Int}, OwnsSl 1 s' e' (ints (lgo k st o)) → (∀ a v, ro a = some v → e'.id ≠ some a.block) → lgot k st o = g → VRet ⟨own ++ [E] ++ [e'], ro⟩ (.tuple (List.toArray [.slice s'.a s'.len s'.cap, .int .i64 g])) post := fun {s' e' g} ho hf e2 => by
    refine ⟨⟨own, Go.Eng.frozen e' ro⟩, (Gh.drop (own' := own ++ [e']) ?_).trans (by simpa using Gh.freeze own [] ro e' hf), ?_⟩
    · simp only [List.append_assoc]
      exact List.Sublist.append_left (by simp) _
    · have := hk s' _ (frozen_mono hf) (RdSl.frozen ho) ho.cap_le
      rw [e2] at this
      exact this
  refine VIf_eq (fun hk0 => ?_) (fun hk0 => ?_)
  · obtain ⟨z, rfl⟩ := h0 hk0
    obtain ⟨b, hb⟩ := hr.addr (by simp)
    refine ⟨_, hEr 1 _ (by simp) rfl, VIf_eq (fun hk1 => ?_) (fun hk1 => ?_)⟩
    · refine ⟨b, hb, by omega, by simp at hl; omega, b, hb, by omega, by simp at hl; omega, z, hru.rdi (i := (0 : Int).toNat) hb rfl, o.arg, hEr 2 _ (by simp) rfl, hin hk0, z, hru.rdi (i := (0 : Int).toNat) hb rfl, fun r9 h9 => ?_⟩
      refine fresh (e' := ⟨some r9, [.int .i64 (z + o.arg)], 1⟩) (s' := ⟨some (Addr.mk r9 0 none), 1, 1⟩) ?_ (fun a v h hid => h9.2 a v h (Option.some.inj hid).symm) (by unfold lgot lget; rw [if_pos hk0]; rfl)
      have : lgo k [z] o = [z + o.arg] := by unfold lgo lget; rw [if_pos hk0, if_pos hk1]; rfl
      rw [this]
      exact OwnsSl.at0 1 (by simp [ints]) (by simp) (by unfold maxLen; omega)
    · refine ⟨b, hb, by omega, by simp at hl; omega, z, hru.rdi (i := (0 : Int).toNat) hb rfl, same (by unfold lgo lget; rw [if_pos hk0, if_neg hk1]) (by unfold lgot lget; rw [if_pos hk0]; rfl)⟩
  · refine ⟨_, hEr 1 _ (by simp) rfl, VIf_eq (fun hk1 => ?_) (fun hk1 => ?_)⟩
    · have e1 : lgo k st o = st ++ [o.arg] := by unfold lgo lget; rw [if_neg hk0, if_pos hk1]
      have e2 : lgot k st o = -1 := by unfold lgot lget; rw [if_neg hk0, if_pos hk1]
      refine appVC_of (s := ⟨none, 0, 0⟩) (s2 := s) grows_ints (ys := ints st) (by have := hru.len (h := ⟨[], ro⟩); omega) (hru (own := own ++ [E])).rows.rdS (allOne_ints st) hr.2.1 (A := own ++ [E]) (C := []) (en := ⟨none, [], 0⟩) (xs := []) (by simpa using Gh.phantom (own ++ [E]) [] ro 0) (OwnsSl.nil 1) (by simp only; omega) (fun s' e' o1 l1 _ _ hf => ?_)
      have hf0 : ∀ a v, ro a = some v → e'.id ≠ some a.block := fun a v hv hid => by
        rcases hf _ hid with h | h
        · cases h
        · exact h.2 a v hv rfl
      refine ⟨_, hEr 2 _ (by simp) rfl, fun r hr3 => ?_⟩
      simp only [Nat.zero_add] at l1
      refine appVC_of (s2 := ⟨some (Addr.mk r 0 none), 1, 1⟩) grows_ints (ys := [.int .i64 o.arg]) (by simp) ?_ ⟨rfl, trivial⟩ (by simp) (A := own ++ [E]) (C := []) (en := e') (ro := ro) (Gh.drop (by simp)) o1 (by simp only; omega) (fun s2 e2' o2 l2 _ _ hid => ?_)
      · intro j v hv
        rw [add_mk']
        exact rdo ⟨some r, [.int .i64 o.arg], 1⟩ (by simp) rfl (by simpa using hv)
      · refine fresh (e' := e2') ?_ (fun a v h hb => ?_) e2
        · rw [e1]; simpa [ints, intV] using o2
        · rcases hid _ hb with h1 | h1
          · exact hf0 a v h h1
          · exact h1.2 a v h rfl
    · refine VIf_eq (fun hz => ?_) (fun hz => ?_)
      · have hz : st.length = 0 := by omega
        refine same (by unfold lgo lget; rw [if_neg hk0, if_neg hk1, if_pos hz]) (by unfold lgot lget; rw [if_neg hk0, if_neg hk1, if_pos hz])
      · have hz0 : ¬ st.length = 0 := by omega
        obtain ⟨b, hb⟩ := hr.addr (by rw [ints_length]; omega)
        have at' : ∀ i : Nat, i < st.length → st[i]? = some (gI st i) := fun i hi => by rw [List.getElem?_eq_getElem hi]; unfold gI; rw [List.getElem?_eq_getElem hi]; rfl
        refine VIf_eq (fun hk2 => ?_) (fun hk2 => ?_)
        · have e1 : lgo k st o = st.take (st.length - 1) := by unfold lgo lget; rw [if_neg hk0, if_neg hk1, if_neg hz0, if_pos hk2]
          have e2 : lgot k st o = gI st (st.length - 1) := by unfold lgot lget; rw [if_neg hk0, if_neg hk1, if_neg hz0, if_pos hk2]
          have hi : (((s.len : Nat) : Int) - 1).toNat = st.length - 1 := by omega
          refine ⟨⟨by omega, by omega⟩, by omega, by omega, ⟨by omega, by omega⟩, b, hb, by omega, by omega, gI st (st.length - 1), ?_, ?_⟩
          · rw [hi]; exact hru.rdi hb (at' _ (by omega))
          · rw [hi]
            refine ⟨⟨own, ro⟩, Gh.drop (by simp), ?_⟩
            have := hk ⟨s.a, st.length - 1, s.cap⟩ ro (fun _ _ h => h) ?_ (by dsimp only; omega)
            · rw [e2] at this; exact this
            · rw [e1]
              refine ⟨by simp [ints], fun ha => (by have := hr.2.1 ha; dsimp only; omega), fun b' hb' i v hv => hr.2.2 b' hb' i v ?_⟩
              rw [ints_get] at hv ⊢
              rw [← hv, List.getElem?_take]
              split
              · rfl
              · rw [List.getElem?_take, if_neg (by assumption)] at hv; cases hv
        · have e1 : lgo k st o = st.drop 1 := by unfold lgo lget; rw [if_neg hk0, if_neg hk1, if_neg hz0, if_neg hk2]
          have e2 : lgot k st o = gI st 0 := by unfold lgot lget; rw [if_neg hk0, if_neg hk1, if_neg hz0, if_neg hk2]
          refine ⟨by omega, by omega, b, hb, by omega, by omega, gI st 0, hru.rdi (i := (0 : Int).toNat) hb (at' 0 (by omega)), ?_⟩
          refine ⟨⟨own, ro⟩, Gh.drop (by simp), ?_⟩
          have := hk ⟨if s.cap = (1 : Int).toNat then s.a else Option.map (fun z => Addr.add z ((1 : Int).toNat * 1)) s.a, s.len - (1 : Int).toNat, s.cap - (1 : Int).toNat⟩ ro (fun _ _ h => h) ?_ (by dsimp only; omega)
          · rw [e2] at this; exact this
          · rw [e1]
            refine ⟨by simp [ints]; omega, fun ha => ?_, fun b' hb' i v hv => ?_⟩
            · dsimp only at ha ⊢
              rw [hb] at ha
              split at ha
              · cases ha
              · cases ha
            · have hi := (List.getElem?_eq_some_iff.1 hv).1
              simp only [ints_length, List.length_drop] at hi
              dsimp only at hb'
              rw [hb, if_neg (by simp; omega)] at hb'
              cases hb'
              rw [add_add]
              refine hr.2.2 b hb _ v ?_
              rw [ints_get] at hv ⊢
              rw [List.getElem?_drop] at hv
              simpa using hv
/-! ### a closed fact -/
def swp : List LOp := [⟨0, 0, 1, -1, 0, 1⟩, ⟨0, 0, 2, -1, 1, 2⟩, ⟨1, 1, 0, 2, 3, 4⟩]
theorem swapped_c {own : List Ent} {ro : Addr → Option Value} {post : Value → H → Prop} (hk : ∀ (s : SV) (e : Ent), OwnsSl 6 s e (swp.flatMap lopV) → s.len = 3 → post (.slice s.a s.len s.cap) ⟨own ++ [e], ro⟩) :
    SemCall Tryd.prog 41 (List.toArray []) ⟨own, ro⟩ post := by
  refine f41_call _ post ?_
  intro r1 _
  exact ret (hk ⟨some (Addr.mk r1 0 none), 3, 3⟩ _ (OwnsSl.at0 6 (by simp [swp, lopV]) (by simp) (by unfold maxLen; omega)) rfl)
theorem swp_ok {k : Int} (k0 : 0 ≤ k) (k2 : k ≤ 2) : lcheck k swp = 0 := by
  refine lcheck_zero.2 ⟨k0, k2, by decide, ?_, ?_, ?_⟩
  · intro o ho
    simp only [swp, List.mem_cons, List.not_mem_nil, or_false] at ho
    rcases ho with rfl | rfl | rfl <;> simp [lrange]
  · intro o ho
    simp only [swp, List.mem_cons, List.not_mem_nil, or_false] at ho
    rcases ho with rfl | rfl | rfl <;> simp
  · simp [swp, lclash]
theorem swp_order {k : Int} {l : List Nat} (h : LGood k swp l) : l = [0, 1, 2] := by
  have ht : ∀ o ∈ swp, o.frm < o.too := (lcheck_zero.1 (swp_ok (k := 0) (by omega) (by omega))).t
  have hp : l.Pairwise (· < ·) := by
    refine (h.ord.and (List.nodup_iff_pairwise_ne.1 h.nd)).imp_of_mem fun {a b} ha hb hab => ?_
    have ha := h.lt a ha
    have hb := h.lt b hb
    have hne := hab.2
    have := hab.1 _ _ (List.getElem?_eq_getElem ha) (List.getElem?_eq_getElem hb)
    have hl : swp.length = 3 := rfl
    rcases (by omega : a = 0 ∨ a = 1 ∨ a = 2) with rfl | rfl | rfl <;> rcases (by omega : b = 0 ∨ b = 1 ∨ b = 2) with rfl | rfl | rfl <;> simp [swp] at this <;> omega
  have := sorted_range (n := 3) (s := 0) hp h.len (fun i hi => ⟨Nat.zero_le _, by have := h.lt i hi; simpa [swp] using this⟩)
  rw [this]; rfl
theorem swp_queue : lrow 2 swp = none := by
  cases h : lrow 2 swp with
  | none => rfl
  | some l =>
    have hg := lrow_good (lcheck_zero.1 (swp_ok (k := 2) (by omega) (by omega))).t h
    have := swp_order hg
    subst this
    have hr := hg.run
    simp [swp, lruns, lgot, lget, lin0, lgo, gI] at hr
theorem swp_stack : lrow 1 swp = some [0, 1, 2] := by
  have ht := (lcheck_zero.1 (swp_ok (k := 1) (by omega) (by omega))).t
  have hg : LGood 1 swp [0, 1, 2] := by
    refine ⟨rfl, by decide, by decide, ?_, ?_⟩
    · simp [swp]
    · simp [swp, lruns, lgot, lget, lin0, lgo, gI]
  obtain ⟨l, hl, _⟩ := lrow_of_good ht hg
  rw [hl, swp_order (lrow_good ht hl)]
theorem lin_fact_c {own : List Ent} {ro : Addr → Option Value} {post : Value → H → Prop} (hk : ∀ ro', (∀ a v, ro a = some v → ro' a = some v) → post (.bool true) ⟨own, ro'⟩) : SemCall Tryd.prog 27 (List.toArray []) ⟨own, ro⟩ post := by
  refine f27_call _ post (swapped_c (fun s e ho hs => ⟨s, rfl, SemCall.frz own e [] rfl ho fun ro1 m1 r1 => ?_⟩))
  refine lin_row_c (k := 2) r1 ho.cap_le (fun hc => absurd (swp_ok (by omega) (by omega)) hc) (fun _ _ => ?_) (fun l s' e' _ hl _ => by rw [swp_queue] at hl; cases hl)
  refine ⟨_, ⟨none, 0, 0⟩, none, rfl, swapped_c (fun s2 e2 ho2 hs2 => ⟨s2, rfl, SemCall.frz (own ++ []) e2 [] rfl ho2 fun ro2 m2 r2 => ?_⟩)⟩
  refine lin_row_c (k := 1) r2 ho2.cap_le (fun hc => absurd (swp_ok (by omega) (by omega)) hc) (fun _ hl => by rw [swp_stack] at hl; cases hl) (fun l s' e' _ hl o' => ?_)
  rw [swp_stack] at hl
  cases hl
  refine ⟨_, s', none, rfl, ?_⟩
  refine ⟨fun b h => b = true ∧ h = ⟨own, ro2⟩, VIf_nil (VIf_nil (VIf_nb (fun _ => VIf_b (fun _ => ?_) (nomatch ·)) (nomatch ·))), ?_⟩
  · intro r18 _
    have g1 : RdSl ⟨own ++ [] ++ [] ++ [e'] ++ [⟨some r18, [.int .i64 0, .int .i64 1, .int .i64 2], 3⟩], ro2⟩ s' (ints [0, 1, 2]) := RdSl.of_own (e := e') (by simp) o'
    have g2 : RdSl ⟨own ++ [] ++ [] ++ [e'] ++ [⟨some r18, [.int .i64 0, .int .i64 1, .int .i64 2], 3⟩], ro2⟩ ⟨some (Addr.mk r18 0 none), 3, 3⟩ (ints [0, 1, 2]) := RdSl.row (n := 3) (vs := ints [0, 1, 2]) (e := ⟨some r18, [.int .i64 0, .int .i64 1, .int .i64 2], 3⟩) (by simp) rfl rfl
    have hlen := o'.sl_len
    simp [nints] at hlen
    refine same_ints_c (s2 := ⟨some (Addr.mk r18 0 none), 3, 3⟩) g1 g2 (by omega) ⟨_, rfl, ?_⟩
    exact ⟨⟨own, ro2⟩, Gh.drop (by simp), by simp, rfl⟩
  · rintro _ b h ⟨rfl, rfl⟩
    exact ret (hk ro2 (fun a v h => m2 a v (m1 a v h)))
end Go.Proofs.YtnepjdobknjecaaDoor
