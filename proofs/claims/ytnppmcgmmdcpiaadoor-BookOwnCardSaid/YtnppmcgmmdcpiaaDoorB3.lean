import Derived.Test.YtnppmcgmmdcpiaaDoorB1
namespace Go.Proofs.YtnppmcgmmdcpiaaDoor
open Go.Eng
set_option maxRecDepth 20000
/-! ### the bank, walked: rows, what is moved, asked, given back -/
theorem SemCall.wfp {P : Program} {f : FuncId} {args : Array Value} {h : H} {post : Value → H → Prop} (hx : SemCall P f args h fun v h' => Wf h' → post v h') : SemCall P f args h post :=
  fun w hw => (hx w hw).mono fun _ _ ⟨v, h', a, b, c, d⟩ => ⟨v, h', a, b, c, d ⟨b.nd, b.ap⟩⟩
theorem isum_ub {f : Nat → Int} {c : Int} (hc : 0 ≤ c) : ∀ {l : List Nat}, (∀ t ∈ l, f t ≤ c) → isum f l ≤ c * l.length
  | [], _ => by simp [isum]
  | t :: l, h => by
    have h1 := isum_ub hc (l := l) (fun t ht => h t (by simp [ht]))
    have h2 := h t (by simp)
    simp only [isum, List.length_cons]
    have : c * ((l.length + 1 : Nat) : Int) = c * (l.length : Int) + c := by rw [Int.natCast_succ, Int.mul_add, Int.mul_one]
    omega
theorem bfree_b {b : Bk} (ho : BOk b) {l : List Nat} (hd : l.Nodup) (hl : ∀ t ∈ l, t < b.claim.length) {k : Nat} (hk : k < b.free.length) : 0 ≤ gI (bfree b l) k ∧ gI (bfree b l) k ≤ 6000 := by
  rw [bfree_get hk]
  have h0 := ho.f k hk
  have h1 := isum_nn (f := fun t => g2 b.has t k) (l := l) (fun t ht => (ho.c t k (hl t ht) hk).2.1)
  have h2 := isum_ub (f := fun t => g2 b.has t k) (c := 1000) (by omega) (l := l) (fun t ht => by have := ho.c t k (hl t ht) hk; omega)
  have h3 := bk_nodup_le hd hl
  have := ho.m5
  omega
theorem mem_ofNat {l : List Nat} {t : Nat} : ((t : Nat) : Int) ∈ l.map Int.ofNat ↔ t ∈ l := by
  rw [List.mem_map]
  exact ⟨fun ⟨a, h, e⟩ => by have e : a = t := Int.ofNat.inj e; exact e ▸ h, fun h => ⟨t, h, rfl⟩⟩
@[simp] theorem nats_len (l : List Nat) : (l.map Int.ofNat).length = l.length := by simp
set_option maxHeartbeats 800000 in
theorem bank_row_c {b : Bk} {sf sc sh : SV} {own : List Ent} {ro : Addr → Option Value} {post : Value → H → Prop} (hb : BkRd ⟨own, ro⟩ sf sc sh b) (ho : BOk b)
    (h1 : brow b = none → post (.tuple (List.toArray [.slice none 0 0, .bool false])) ⟨own, ro⟩) (h2 : ∀ (r : List Nat) (s' : SV) (e' : Ent), brow b = some r → OwnsSl 1 s' e' (ints (r.map Int.ofNat)) → post (.tuple (List.toArray [.slice s'.a s'.len s'.cap, .bool true])) ⟨own ++ [e'], ro⟩) :
    SemCall Tryd.prog 36 (List.toArray [bkV sf sc sh]) ⟨own, ro⟩ post := by
  refine f36_call sf sc sh _ post ?_
  intro r1 _
  simp only [add_mk', Nat.zero_add, Nat.add_zero]
  have fl := hb.fl
  have cl := hb.cl
  have hl := hb.hl
  have hhl := ho.hl
  have hn3 := ho.n3
  have hm5 := ho.m5
  have hup : ∀ {X : List Ent}, BkRd ⟨own ++ bkE r1 sf sc sh :: X, ro⟩ sf sc sh b := fun {X} => hb.mono (fun e he => List.mem_append_left _ he) (fun _ _ h => h)
  have hE : ∀ {X : List Ent}, bkE r1 sf sc sh ∈ own ++ bkE r1 sf sc sh :: X := fun {X} => by simp
  refine ⟨sf, bkE_0 hE, clone_c (hup (X := [])).f (by omega) (fun s6 e6 o6 => ⟨s6, rfl, ?_⟩)⟩
  have hcat : ∀ {e : Ent}, own ++ [bkE r1 sf sc sh] ++ [e] = own ++ bkE r1 sf sc sh :: [e] := fun {e} => by simp
  have l6 := o6.sl_len
  rw [ints_length] at l6
  rw [show (⟨some r1, [Value.slice sf.a sf.len sf.cap, .slice sc.a sc.len sc.cap, .slice sh.a sh.len sh.cap], List.length [Value.slice sf.a sf.len sf.cap, .slice sc.a sc.len sc.cap, .slice sh.a sh.len sh.cap]⟩ : Ent) = bkE r1 sf sc sh from rfl, hcat]
  refine ⟨fun s h => ∃ r e6 eo, brow b = some r ∧ h = ⟨own ++ bkE r1 sf sc sh :: [e6, eo], ro⟩ ∧ OwnsSl 1 s eo (ints (r.map Int.ofNat)),
    ⟨fun n s h => ∃ (out : List Nat) (e6 eo : Ent), out.length + n = b.claim.length ∧ bgo b n out (bfree b out) = brow b ∧ out.Nodup ∧ (∀ t ∈ out, t < b.claim.length) ∧ h = ⟨own ++ bkE r1 sf sc sh :: [e6, eo], ro⟩ ∧ OwnsSl 1 s6 e6 (ints (bfree b out)) ∧ OwnsSl 1 s eo (ints (out.map Int.ofNat)),
      ⟨b.claim.length, _, by simpa using Gh.phantom (own ++ bkE r1 sf sc sh :: [e6]) [] ro 0, [], e6, _, by simp, rfl, by simp, by simp, by simp, o6, OwnsSl.nil 1⟩, ?_⟩, ?_⟩
  rotate_left
  · rintro _ s _ ⟨r, e6', eo, hr, rfl, o⟩
    exact ⟨⟨own ++ [eo], ro⟩, Gh.drop (by simp), h2 r s eo hr o⟩
  clear o6
  rintro n _ s _ ⟨out, e6, eo, hn, hgo, hnd, hlt, rfl, o6, oo⟩
  have hlo := oo.sl_len
  rw [ints_length, nats_len] at hlo
  refine ⟨sc, bkE_1 hE, VIf_dec (fun hc => ?_) (fun hc => gi ⟨out, e6, eo, ?_, rfl, oo⟩)⟩
  rotate_left
  · have : n = 0 := by omega
    subst this
    rw [← hgo]; rfl
  obtain ⟨n, rfl⟩ : ∃ n', n = n' + 1 := ⟨n - 1, by omega⟩
  rw [bgo] at hgo
  have hro : RdSl ⟨own ++ bkE r1 sf sc sh :: [e6, eo], ro⟩ s (ints (out.map Int.ofNat)) := RdSl.of_own (e := eo) (by simp) oo
  have hr6 : RdSl ⟨own ++ bkE r1 sf sc sh :: [e6, eo], ro⟩ s6 (ints (bfree b out)) := RdSl.of_own (e := e6) (by simp) o6
  refine ⟨fun s h => ∃ (out : List Nat) (e6 eo : Ent), out.length + n = b.claim.length ∧ bgo b n out (bfree b out) = brow b ∧ out.Nodup ∧ (∀ t ∈ out, t < b.claim.length) ∧ h = ⟨own ++ bkE r1 sf sc sh :: [e6, eo], ro⟩ ∧ OwnsSl 1 s6 e6 (ints (bfree b out)) ∧ OwnsSl 1 s eo (ints (out.map Int.ofNat)), ?_, ?_⟩
  rotate_left
  · rintro _ s _ h
    exact ⟨n, by omega, gi h⟩
  -- the next one
  refine ⟨fun x h => h = ⟨own ++ bkE r1 sf sc sh :: [e6, eo], ro⟩ ∧ ∃ t : Nat, x = (t : Int) ∧ ((t = b.claim.length ∧ bnext b (bfree b out) out = none) ∨ (t < b.claim.length ∧ bnext b (bfree b out) out = some t)),
    ⟨fun n x h => ∃ t : Nat, x = (t : Int) ∧ t ≤ b.claim.length ∧ n = b.claim.length - t ∧ h = ⟨own ++ bkE r1 sf sc sh :: [e6, eo], ro⟩ ∧ ∀ u, u < t → u ∈ out ∨ bends b (bfree b out) u = false, ⟨_, gi ⟨0, rfl, Nat.zero_le _, rfl, rfl, fun j hj => by omega⟩⟩, ?_⟩, ?_⟩
  · rintro n' _ x _ ⟨t, rfl, ht, rfl, rfl, hall⟩
    refine join_b (h := ⟨own ++ bkE r1 sf sc sh :: [e6, eo], ro⟩) (decide (t < b.claim.length ∧ (t ∈ out ∨ bends b (bfree b out) t = false))) ⟨sc, bkE_1 hE, VIf_dec (fun h3 => ?_) (fun h3 => gi ⟨rfl, (decide_eq_false (fun h => h3 (by omega))).symm⟩)⟩ ?_
    · refine contains_c hro (by omega) ⟨_, rfl, VIf_dec (fun h4 => gi ⟨rfl, (decide_eq_true ⟨by omega, .inl (mem_ofNat.1 h4)⟩).symm⟩) (fun h4 => ?_)⟩
      refine ⟨sf, bkE_0 hE, sc, bkE_1 hE, sh, bkE_2 hE, bank_ends_c hup hr6 ho (by omega) (by omega) (bfree_len b out) ⟨_, rfl, gi ⟨rfl, ?_⟩⟩⟩
      rw [Int.toNat_natCast]
      cases hbe : bends b (bfree b out) t with
      | true => exact (decide_eq_false (by rintro ⟨_, h | h⟩; exact h4 (mem_ofNat.2 h); cases h)).symm
      | false => exact (decide_eq_true ⟨by omega, .inr rfl⟩).symm
    · refine VIf_dec (fun h3 => ⟨⟨by omega, by omega⟩, b.claim.length - (t + 1), by omega, gi ⟨t + 1, by omega, by omega, rfl, rfl, fun u hu => ?_⟩⟩) (fun h3 => gi ⟨rfl, t, rfl, ?_⟩)
      · by_cases he : u = t
        · subst he; exact h3.2
        · exact hall u (by omega)
      · by_cases htm : t < b.claim.length
        · refine .inr ⟨htm, ?_⟩
          unfold bnext
          rw [List.find?_range_eq_some]
          have h5 : ¬ t ∈ out ∧ bends b (bfree b out) t = true := ⟨fun h => h3 ⟨htm, .inl h⟩, by
            cases hbe : bends b (bfree b out) t with
            | true => rfl
            | false => exact absurd ⟨htm, .inr hbe⟩ h3⟩
          refine ⟨by simp [h5.1, h5.2], List.mem_range.2 htm, fun u hu => ?_⟩
          rcases hall u hu with h | h <;> simp [h]
        · refine .inl ⟨by omega, ?_⟩
          unfold bnext
          rw [List.find?_eq_none]
          intro u hu
          rcases hall u (by have := List.mem_range.1 hu; omega) with h | h <;> simp [h]
  rintro _ x _ ⟨rfl, t, rfl, ht⟩
  refine ⟨sc, bkE_1 hE, VIf_eq (fun h3 => ?_) (fun h3 => ?_)⟩
  · have hno : brow b = none := by
      rcases ht with ⟨_, ht⟩ | ⟨ht, _⟩
      · rw [ht] at hgo; exact hgo.symm
      · omega
    exact ⟨⟨own, ro⟩, Gh.drop (by simp), h1 hno⟩
  obtain ⟨htm, hnx⟩ : t < b.claim.length ∧ bnext b (bfree b out) out = some t := by
    rcases ht with ⟨ht, _⟩ | h
    · omega
    · exact h
  rw [hnx] at hgo
  dsimp only at hgo
  rw [← bfree_app] at hgo
  obtain ⟨_, hto, _, _⟩ := bnext_some hnx
  have hnd2 : (out ++ [t]).Nodup := List.nodup_append.2 ⟨hnd, by simp, by simp; exact fun a ha e => hto (e ▸ ha)⟩
  have hlt2 : ∀ u ∈ out ++ [t], u < b.claim.length := fun u hu => by
    rcases List.mem_append.1 hu with hu | hu
    · exact hlt u hu
    · simp only [List.mem_singleton] at hu; omega
  refine app_row grows_ints (vs := [.int .i64 (t : Int)]) rfl ⟨rfl, trivial⟩ (own ++ bkE r1 sf sc sh :: [e6]) eo [] (by simp) oo (by omega) (fun s2 eo2 oo2 _ => ?_)
  have hcat2 : own ++ bkE r1 sf sc sh :: [e6] ++ [eo2] = own ++ bkE r1 sf sc sh :: [e6, eo2] := by simp
  rw [hcat2]
  have oo2 : OwnsSl 1 s2 eo2 (ints ((out ++ [t]).map Int.ofNat)) := by simpa [ints, intV] using oo2
  have hfl := bfree_len b out
  have hhn := (ho.cn t htm).2
  refine ⟨fun h => ∃ e6, h = ⟨own ++ bkE r1 sf sc sh :: [e6, eo2], ro⟩ ∧ OwnsSl 1 s6 e6 (ints (bfree b (out ++ [t]))),
    ⟨fun n x h => ∃ (k : Nat) (e6 : Ent) (L : List Int), x = (k : Int) ∧ k ≤ b.free.length ∧ n = b.free.length - k ∧ h = ⟨own ++ bkE r1 sf sc sh :: [e6, eo2], ro⟩ ∧ OwnsSl 1 s6 e6 (ints L) ∧ L.length = b.free.length ∧ ∀ j, j < b.free.length → gI L j = gI (bfree b out) j + if j < k then g2 b.has t j else 0,
      ⟨_, gi ⟨0, e6, bfree b out, rfl, Nat.zero_le _, rfl, rfl, o6, hfl, fun j hj => by rw [if_neg (by omega)]; omega⟩⟩, ?_⟩, ?_⟩
  · rintro n' _ x _ ⟨k, e6', L, rfl, hk, rfl, rfl, o6', hL, hg⟩
    refine VIf_dec (fun hi => ?_) (fun hi => gi ⟨e6', rfl, ?_⟩)
    · have hkf : k < b.free.length := by omega
      have hr6' : RdSl ⟨own ++ bkE r1 sf sc sh :: [e6', eo2], ro⟩ s6 (ints L) := RdSl.of_own (e := e6') (by simp) o6'
      refine idxG hr6' (by omega) (by omega) ⟨sh, bkE_2 hE, hup.ha (by omega) (by omega) fun xh hxh hlh => ?_⟩
      rw [Int.toNat_natCast] at hxh hlh
      refine idxG hxh (by omega) (by omega) ?_
      have e2 : gI ((b.has[t]?).getD []) k = g2 b.has t k := rfl
      rw [Int.toNat_natCast, e2, hg k hkf, if_neg (by omega)]
      have hc := ho.c t k htm hkf
      have hbb := bfree_b ho hnd hlt hkf
      refine ⟨⟨by omega, by omega⟩, wr_at (own ++ [bkE r1 sf sc sh]) e6' [eo2] (by simp) o6' (by omega) (by omega) (fun e' oe' _ => ⟨⟨by omega, by omega⟩, b.free.length - (k + 1), by omega, gi ⟨k + 1, e', _, by omega, by omega, rfl, by simp, oe', by simpa using hL, fun j hj => ?_⟩⟩)⟩
      rw [Int.toNat_natCast, gI_bset (by omega)]
      by_cases he : j = k
      · subst he; rw [if_pos rfl, if_pos (by omega)]; omega
      · rw [if_neg he, hg j hj]
        by_cases hjk : j < k
        · rw [if_pos hjk, if_pos (by omega)]
        · rw [if_neg hjk, if_neg (by omega)]
    · have : L = bfree b (out ++ [t]) := by
        refine gI_ext (by rw [bfree_len]; exact hL) fun j hj => ?_
        rw [hg j (by omega), if_pos (by omega), bfree_app, badd_get (by omega)]
      rw [← this]; exact o6'
  rintro _ _ ⟨e6', rfl, o6'⟩
  exact gi ⟨out ++ [t], e6', eo2, by simp; omega, hgo, hnd2, hlt2, rfl, o6', oo2⟩
theorem bank_safe_c {b : Bk} {sf sc sh : SV} {own : List Ent} {ro : Addr → Option Value} {post : Value → H → Prop} (hb : BkRd ⟨own, ro⟩ sf sc sh b)
    (h0 : bcheck b ≠ 0 → post (.tuple (List.toArray [.bool false, .slice none 0 0, errV (eno 60 (bcheck b))])) ⟨own, ro⟩)
    (h1 : BOk b → brow b = none → post (.tuple (List.toArray [.bool false, .slice none 0 0, .nilIface])) ⟨own, ro⟩) (h2 : ∀ (r : List Nat) (s' : SV) (e' : Ent), BOk b → brow b = some r → OwnsSl 1 s' e' (ints (r.map Int.ofNat)) → post (.tuple (List.toArray [.bool true, .slice s'.a s'.len s'.cap, .nilIface])) ⟨own ++ [e'], ro⟩) :
    SemCall Tryd.prog 22 (List.toArray [bkV sf sc sh]) ⟨own, ro⟩ post := by
  refine f22_call sf sc sh _ post ?_
  intro r1 _
  simp only [add_mk', Nat.zero_add, Nat.add_zero]
  have hup : BkRd ⟨own ++ [bkE r1 sf sc sh], ro⟩ sf sc sh b := hb.mono (fun e he => List.mem_append_left _ he) (fun _ _ h => h)
  have hE : bkE r1 sf sc sh ∈ own ++ [bkE r1 sf sc sh] := by simp
  refine ⟨sf, bkE_0 hE, sc, bkE_1 hE, sh, bkE_2 hE, bank_check_c hup ⟨_, rfl, VIf_nerr (fun hc => ⟨⟨own, ro⟩, Gh.drop (by simp), h0 hc⟩) (fun hc => ?_)⟩⟩
  have ho := bcheck_zero.1 hc
  refine ⟨sf, bkE_0 hE, sc, bkE_1 hE, sh, bkE_2 hE, bank_row_c hup ho (fun hr => ⟨⟨none, 0, 0⟩, false, rfl, ⟨⟨own, ro⟩, Gh.drop (by simp), h1 ho hr⟩⟩) (fun r s' e' hr o => ⟨s', true, rfl, ⟨⟨own ++ [e'], ro⟩, Gh.drop (by simp), h2 r s' e' ho hr o⟩⟩)⟩
/-! #### slices of slices, each of a row of its own -/
structure OwPar (xs : List Ent) (ss : List SV) (ls : List (List Int)) : Prop where
  l1 : xs.length = ss.length
  l2 : ss.length = ls.length
  g : ∀ (j : Nat) e s l, xs[j]? = some e → ss[j]? = some s → ls[j]? = some l → OwnsSl 1 s e (ints l)
theorem OwPar.nil : OwPar [] [] [] := ⟨rfl, rfl, by simp⟩
theorem OwPar.app {xs : List Ent} {ss : List SV} {ls : List (List Int)} (h : OwPar xs ss ls) {s : SV} {l : List Int} {e : Ent} (hr : OwnsSl 1 s e (ints l)) : OwPar (xs ++ [e]) (ss ++ [s]) (ls ++ [l]) := by
  refine ⟨by simp [h.l1], by simp [h.l2], fun j e' s' l' a b c => ?_⟩
  have := h.l1
  have := h.l2
  rcases app_cases a with ⟨a1, a2⟩ | ⟨a1, rfl⟩ <;> rcases app_cases b with ⟨b1, b2⟩ | ⟨b1, rfl⟩ <;> rcases app_cases c with ⟨c1, c2⟩ | ⟨c1, rfl⟩
  · exact h.g j e' s' l' a2 b2 c2
  · omega
  · omega
  · omega
  · omega
  · omega
  · omega
  · exact hr
theorem OwPar.set {xs : List Ent} {ss : List SV} {ls : List (List Int)} (h : OwPar xs ss ls) {p : Nat} {s : SV} {l : List Int} {e : Ent} (hs : ss[p]? = some s) (hr : OwnsSl 1 s e (ints l)) : OwPar (xs.set p e) ss (ls.set p l) := by
  refine ⟨by simp [h.l1], by simp [h.l2], fun j e' s' l' a b c => ?_⟩
  rcases set_cases a with ⟨a1, rfl⟩ | ⟨a1, a2⟩ <;> rcases set_cases c with ⟨c1, rfl⟩ | ⟨c1, c2⟩
  · subst a1; rw [hs] at b; cases b; exact hr
  · exact absurd a1 c1
  · exact absurd c1 a1
  · exact h.g j e' s' l' a2 b c2
theorem OwPar.rd {xs : List Ent} {ss : List SV} {ls : List (List Int)} (h : OwPar xs ss ls) {hh : H} {s : SV} (hs : RdSl hh s (ss.map svV)) (he : ∀ e ∈ xs, ∀ s xs, OwnsSl 1 s e xs → RdSl hh s xs) : ∃ rc, RdRowsOf hh s rc ∧ rc.map Prod.snd = ls := by
  refine ⟨ss.zip ls, ⟨?_, fun r hr => ?_⟩, List.map_snd_zip (by have := h.l2; omega)⟩
  · have e : (ss.zip ls).map (fun r => Value.slice r.1.a r.1.len r.1.cap) = ss.map svV := by
      conv => rhs; rw [← List.map_fst_zip (l₁ := ss) (l₂ := ls) (by have := h.l2; omega)]
      rw [List.map_map]; rfl
    rw [e]; exact hs
  · obtain ⟨j, hj⟩ := List.mem_iff_getElem?.1 hr
    rw [List.getElem?_zip_eq_some] at hj
    have hlt := (List.getElem?_eq_some_iff.1 hj.1).1
    obtain ⟨e, hx⟩ : ∃ e, xs[j]? = some e := ⟨_, List.getElem?_eq_getElem (by have := h.l1; omega)⟩
    exact he _ (List.mem_of_getElem? hx) _ _ (h.g j _ _ _ hx hj.1 hj.2)
set_option maxRecDepth 20000 in
theorem grows_rows : Grows Tryd.prog 23 22 1 := ⟨rfl, rfl, by decide, by decide, ⟨_, rfl, rfl, ⟨rfl, trivial⟩⟩⟩
theorem Wf.mid {A C : List Ent} {en en' : Ent} {ro : Addr → Option Value} (h : Wf ⟨A ++ en :: C, ro⟩) (he : en'.id = en.id) : Wf ⟨A ++ en' :: C, ro⟩ := h.ids (by simp [he])
theorem Wf.perm {own own' : List Ent} {ro : Addr → Option Value} (h : Wf ⟨own, ro⟩) (p : own'.Perm own) : Wf ⟨own', ro⟩ :=
  ⟨(List.Perm.nodup_iff (p.filterMap _)).2 h.nd, fun a v hv e he => h.ap a v hv e (p.mem_iff.1 he)⟩
/-- all is frozen that is a bank -/
theorem bk_frz {own X Y : List Ent} {ef eC eH : Ent} {ro : Addr → Option Value} {sf sC sH : SV} {ssC ssH : List SV} {b : Bk} (hw : Wf ⟨own ++ (ef :: eC :: eH :: (X ++ Y)), ro⟩) (of : OwnsSl 1 sf ef (ints b.free)) (oC : OwnsSl 1 sC eC (ssC.map svV)) (oH : OwnsSl 1 sH eH (ssH.map svV)) (pC : OwPar X ssC b.claim) (pH : OwPar Y ssH b.has) :
    ∃ ro', Gh ⟨own ++ (ef :: eC :: eH :: (X ++ Y)), ro⟩ ⟨own, ro'⟩ ∧ (∀ a v, ro a = some v → ro' a = some v) ∧ BkRd ⟨[], ro'⟩ sf sC sH b := by
  obtain ⟨ro', g, m, r⟩ := frzE (own := own) _ ro hw
  refine ⟨ro', g, m, r ef (by simp) _ _ of, pC.rd (r eC (by simp) _ _ oC) (fun e he s xs o => r e (by simp [he]) s xs o), pH.rd (r eH (by simp) _ _ oH) (fun e he s xs o => r e (by simp [he]) s xs o)⟩
end Go.Proofs.YtnppmcgmmdcpiaaDoor
