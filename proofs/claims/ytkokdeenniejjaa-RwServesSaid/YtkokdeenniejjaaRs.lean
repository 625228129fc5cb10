import Derived.Test.YtkokdeenniejjaaRl
namespace Go.Proofs.Ytkokdeenniejjaa
open Go.Eng
theorem rwServes_c {st : SV} {rows : List (SV × List Int)} {ro : Addr → Option Value} {post : Value → H → Prop} (hr : RdRowsOf ⟨[], ro⟩ st rows) (hpost : ∀ h, post (.bool true) h) :
    SemCall Try.prog 8 (List.toArray [.slice st.a st.len st.cap]) ⟨[], ro⟩ post := by
  refine f8_call _ _ post ?_
  refine rw_fact_c ⟨_, rfl, (nomatch ·), fun _ => ?_⟩
  refine rw_new_c (fun p L hs => ⟨_, rfl, ?_⟩)
  refine ⟨RwSt p ro, ⟨fun n i h => RwSt p ro h ∧ 0 ≤ i ∧ i ≤ 80 ∧ n = (80 - i).toNat, ⟨80, gi ⟨⟨L, 0, 0, [], [], rfl, hs, RwInv.start⟩, by omega, by omega, rfl⟩⟩, ?_⟩, ?_⟩
  · rintro n _ i h ⟨⟨L, m, w, q, rs, rfl, hs, hi⟩, hi0, hi1, rfl⟩
    have hr : ∀ {own}, RdRowsOf ⟨own, ro⟩ st rows := hr.mono (by simp) (fun _ _ h => h)
    refine join_and (VIf_dec (fun hi' => ?_) (fun _ => gi ⟨L, m, w, q, rs, rfl, hs, hi⟩))
    refine hr.idx hi0 hi'.1 fun t xs ht htr => ?_
    have htr : ∀ {own}, RdSl ⟨own, ro⟩ t (ints xs) := by
      intro own
      have hm : (t, xs) ∈ rows := List.mem_of_getElem? ht
      exact (hr (own := own)).2 _ hm
    refine ⟨RwSt p ro, VIf_eq (fun h2 => ?_) (fun _ => gi ⟨L, m, w, q, rs, rfl, hs, hi⟩), ?_⟩
    · refine rw_waits_c hs (fun _ h => h) (by have := hi.qlen; omega) (fun sw ew ow => ⟨sw, rfl, ?_⟩)
      obtain ⟨b0, x0, hb0, _, r0⟩ := (htr (own := L ++ [ew])).at (i := 0) (by omega) (by omega)
      obtain ⟨b1, x1, hb1, _, r1⟩ := (htr (own := L ++ [ew])).at (i := 1) (by omega) (by omega)
      have key : SemCall Try.prog 29 (List.toArray [(Value.pointer (some (Addr.mk p 0 none))), (Value.int .i64 x0), (Value.bool (x1 == (1 : Int)))]) ⟨L ++ [ew], ro⟩ fun v29 h30 =>
          ∃ x31 : Bool, ∃ x32 : Option (TypeId × Value), v29 = (Value.tuple (List.toArray [(Value.bool x31), (errV x32)])) ∧
          ∃ R33 : Bool → H → Prop, (
            isIfaceV (errV x32) = true ∧
            VIf (isNilV (errV x32)) (
              VIf x31 (
                (∃ h34, Gh h30 h34 ∧ R33 (decide (((sw.len : Nat) : Int) > (0 : Int))) h34)) (
                (∃ h35, Gh h30 h35 ∧ R33 false h35))) (
              (∃ h36, Gh h30 h36 ∧ R33 false h36))) ∧
          ∀ (_ : F) (x37 : Bool) (h38 : H), R33 x37 h38 →
          VIf x37 (
            VRet h38 (Value.bool false) post) (
            (∃ h39, Gh h38 h39 ∧ RwSt p ro h39)) := by
        refine rw_ask_c [] [ew] rfl hs (by have := hi.qlen; omega) (fun L1 h1 => ⟨_, _, rfl, ?_⟩)
        obtain ⟨rs', i1⟩ := hi.ask x0 (x1 == 1)
        refine ⟨fun b h => b = false ∧ RwSt p ro h, VIf_err (fun _ => VIf_b (fun his => ?_) (fun _ => ?_)) (fun _ => ?_), ?_⟩
        · refine ⟨⟨L1, ro⟩, Gh.drop (by simp), ?_, L1, _, _, _, rs', rfl, h1, i1⟩
          have hq : q = [] := by
            unfold rwAsk at his
            split at his
            · cases his
            split at his
            · cases his
            split at his
            · rename_i hf; exact hf.1
            · cases his
          have := ow.sl_len
          rw [hq] at this
          simp [ints] at this
          simp [this]
        · exact ⟨⟨L1, ro⟩, Gh.drop (by simp), rfl, L1, _, _, _, rs', rfl, h1, i1⟩
        · exact ⟨⟨L1, ro⟩, Gh.drop (by simp), rfl, L1, _, _, _, rs', rfl, h1, i1⟩
        · rintro _ b h ⟨rfl, hS⟩
          exact VIf_b (nomatch ·) (fun _ => gi hS)
      exact ⟨b0, hb0, by omega, by omega, b1, hb1, by omega, by omega, ⟨x0, r0, x1, r1, key⟩, x1, r1, x0, r0, key⟩
    rintro _ h ⟨L, m, w, q, rs, rfl, hs, hi⟩
    refine VIf_eq (fun h1 => ?_) (fun _ => ⟨⟨by omega, by omega⟩, (80 - (i + 1)).toNat, by omega, gi ⟨⟨L, m, w, q, rs, rfl, hs, hi⟩, by omega, by omega, rfl⟩⟩)
    refine rw_waits_c hs (fun _ h => h) (by have := hi.qlen; omega) (fun sw ew ow => ⟨sw, rfl, ?_⟩)
    refine htr.idx (by omega) (by omega) fun x0 _ => ?_
    refine rw_done_c [] [ew] rfl hs (by have := hi.qlen; omega) hi.qrg (fun L1 s1 e1 h1 o1 => ⟨s1, _, rfl, ?_⟩)
    obtain ⟨rs', i1, _, hsplit, _⟩ := hi.done x0
    refine rw_waits_c h1 (by intro e he; simp [he]) (by have := i1.qlen; omega) (fun s2 e2 o2 => ⟨s2, rfl, ?_⟩)
    have fin : ∃ h2, Gh ⟨[] ++ ((L1 ++ [e1]) ++ [ew]) ++ [e2], ro⟩ h2 ∧ (false = false ∧ RwSt p ro h2) := ⟨⟨L1, ro⟩, Gh.drop (by simp), rfl, L1, _, _, _, rs', rfl, h1, i1⟩
    refine ⟨fun b h => b = false ∧ RwSt p ro h, VIf_err (fun _ => ?_) (fun _ => fin), ?_⟩
    · have lw := ow.sl_len
      have l1 := o1.sl_len
      have l2 := o2.sl_len
      have cw := ow.cap_le
      have hlen := congrArg List.length hsplit
      simp only [ints_length, List.length_map, List.length_append] at lw l1 l2 hlen
      have rw0 : RdSl ⟨[] ++ ((L1 ++ [e1]) ++ [ew]) ++ [e2], ro⟩ sw (ints (q.map (·.1))) := RdSl.of_own (e := ew) (by simp) ow
      have r1 : RdSl ⟨[] ++ ((L1 ++ [e1]) ++ [ew]) ++ [e2], ro⟩ s1 (ints (rwDone m w q x0).1.2.2.2) := RdSl.of_own (e := e1) (by simp) o1
      have r2 : RdSl ⟨[] ++ ((L1 ++ [e1]) ++ [ew]) ++ [e2], ro⟩ s2 (ints ((rwDone m w q x0).1.2.2.1.map (·.1))) := RdSl.of_own (e := e2) (by simp) o2
      have ql := hi.qlen
      have ht := rw0.take (n := ((s1.len : Nat) : Int).toNat) (by omega)
      have hd := rw0.drop (n := ((s1.len : Nat) : Int).toNat) (by omega) cw
      have e1' : (ints (q.map (·.1))).take ((s1.len : Nat) : Int).toNat = ints (rwDone m w q x0).1.2.2.2 := by
        rw [hsplit, Int.toNat_natCast, l1]
        unfold ints
        rw [List.map_append]
        simp
      have e2' : (ints (q.map (·.1))).drop ((s1.len : Nat) : Int).toNat = ints ((rwDone m w q x0).1.2.2.1.map (·.1)) := by
        rw [hsplit, Int.toNat_natCast, l1]
        unfold ints
        rw [List.map_append]
        simp
      rw [e1'] at ht
      rw [e2'] at hd
      refine ⟨⟨by omega, by omega⟩, VIf_ne (fun hne => absurd (by omega) hne) (fun _ => VIf_dec (fun hgt => by omega) (fun _ => ⟨by omega, by omega, ?_⟩))⟩
      refine same_ints_c (s := ⟨sw.a, ((s1.len : Nat) : Int).toNat, sw.cap⟩) ht r1 (by simp only; omega) ⟨_, rfl, VIf_nb (fun h => by simp at h) (fun _ => ⟨by omega, by omega, ?_⟩)⟩
      refine same_ints_c (s := ⟨if sw.cap = ((s1.len : Nat) : Int).toNat then sw.a else Option.map (fun z => Addr.add z (((s1.len : Nat) : Int).toNat * 1)) sw.a, sw.len - ((s1.len : Nat) : Int).toNat, sw.cap - ((s1.len : Nat) : Int).toNat⟩) hd r2 (by simp only; omega) ⟨_, rfl, ?_⟩
      simpa using fin
    · rintro _ b h ⟨rfl, hS⟩
      exact VIf_b (nomatch ·) (fun _ => ⟨⟨by omega, by omega⟩, (80 - (i + 1)).toNat, by omega, gi ⟨hS, by omega, by omega, rfl⟩⟩)
  rintro _ h ⟨L, m, w, q, rs, rfl, hs, hi⟩
  refine ⟨fun h => ∃ L m w q rs, h = ⟨L, ro⟩ ∧ RwAt p m w q L ∧ RwInv m w q rs ∧ rwTot w q rs = 0,
    ⟨fun n j h => (∃ L m w q rs, h = ⟨L, ro⟩ ∧ RwAt p m w q L ∧ RwInv m w q rs ∧ (rwTot w q rs = 0 ∨ (rwTot w q rs : Int) ≤ 8 - j)) ∧ 0 ≤ j ∧ j ≤ 9 ∧ n = (9 - j).toNat, ⟨9, gi ⟨⟨L, m, w, q, rs, rfl, hs, hi, .inr ?_⟩, by omega, by omega, rfl⟩⟩, ?_⟩, ?_⟩
  · have := hi.tot; omega
  · rintro n _ j h ⟨⟨L, m, w, q, rs, rfl, hs, hi, ht⟩, hj0, hj1, rfl⟩
    refine VIf_dec (fun hj => ?_) (fun hj => gi ⟨L, m, w, q, rs, rfl, hs, hi, by omega⟩)
    refine ⟨fun h => ∃ L m w q rs, h = ⟨L, ro⟩ ∧ RwAt p m w q L ∧ RwInv m w q rs ∧ (rwTot w q rs = 0 ∨ (rwTot w q rs : Int) ≤ 8 - (j + 1)), ⟨fun h => ∃ L m w q rs, h = ⟨L, ro⟩ ∧ RwAt p m w q L ∧ RwInv m w q rs ∧ (rwTot w q rs = 0 ∨ (rwTot w q rs : Int) ≤ 8 - (j + 1)),
      ⟨fun n k h => (∃ L m w q rs, h = ⟨L, ro⟩ ∧ RwAt p m w q L ∧ RwInv m w q rs ∧ ((rwTot w q rs = 0 ∨ (rwTot w q rs : Int) ≤ 8 - (j + 1)) ∨ ((rwTot w q rs : Int) ≤ 8 - j ∧ ∃ x : Int, k ≤ x ∧ x ∈ rs ++ rwW w))) ∧ 0 ≤ k ∧ k ≤ 8 ∧ n = (8 - k).toNat, ⟨8, gi ⟨⟨L, m, w, q, rs, rfl, hs, hi, ?_⟩, by omega, by omega, rfl⟩⟩, ?_⟩, fun _ h hR => gi hR⟩, ?_⟩
    · by_cases h0 : rwTot w q rs = 0
      · exact .inl (.inl h0)
      · obtain ⟨x, hx⟩ := hi.holder (by omega)
        refine .inr ⟨by omega, x, ?_, hx⟩
        refine (hi.rg x ?_).1
        rw [← List.append_assoc]; exact List.mem_append_left _ hx
    · rintro n _ k h ⟨⟨L, m, w, q, rs, rfl, hs, hi, ht⟩, hk0, hk1, rfl⟩
      refine VIf_dec (fun hk => ?_) (fun hk => gi ⟨L, m, w, q, rs, rfl, hs, hi, ht.resolve_right ?_⟩)
      · refine rw_done_c [] [] (by simp) hs (by have := hi.qlen; omega) hi.qrg (fun L1 s1 e1 h1 o1 => ⟨s1, _, rfl, ⟨by omega, by omega⟩, (8 - (k + 1)).toNat, by omega, ?_⟩)
        obtain ⟨rs', i1, hold, _, htot⟩ := hi.done k
        refine ⟨⟨L1, ro⟩, Gh.drop (by simp), ⟨L1, _, _, _, rs', rfl, h1, i1, ?_⟩, by omega, by omega, rfl⟩
        rcases ht with ht | ⟨ht, x, hx, hm⟩
        · refine .inl ?_
          rcases htot with ⟨_, h3⟩ | ⟨_, h3⟩ <;> omega
        · rcases htot with ⟨h2, h3⟩ | ⟨h2, h3⟩
          · refine .inl ?_
            omega
          · have hne : x ≠ k := fun e => h2 (e ▸ hm)
            exact .inr ⟨by omega, x, by omega, hold x hm hne⟩
      · rintro ⟨_, x, hx, hm⟩
        have := (hi.rg x (by rw [← List.append_assoc]; exact List.mem_append_left _ hm)).2
        omega
    · rintro _ h hR
      exact ⟨⟨by omega, by omega⟩, (9 - (j + 1)).toNat, by omega, gi ⟨hR, by omega, by omega, rfl⟩⟩
  rintro _ h ⟨L, m, w, q, rs, rfl, hs, hi, ht⟩
  unfold rwTot at ht
  have hq : q = [] := List.eq_nil_of_length_eq_zero (by omega)
  have hrs : rs = [] := List.eq_nil_of_length_eq_zero (by omega)
  have hw : w = 0 := by
    by_cases h0 : w = 0
    · exact h0
    · unfold rwW at ht; rw [if_neg h0] at ht; simp at ht
  have hm := hi.zero.2 hrs
  subst hw; subst hm
  refine ⟨fun b _ => b = true, ?_, fun _ b h hb => ret (hb ▸ hpost _)⟩
  refine rw_waits_c hs (fun _ h => h) (by have := hi.qlen; omega) (fun s' e' o => ⟨s', rfl, ?_⟩)
  have := o.sl_len
  rw [hq] at this
  simp [ints] at this
  refine VIf_eq (fun _ => ?_) (fun h => absurd (by omega) h)
  refine rw_reads_c hs (by intro e he; simp [he]) ⟨_, rfl, VIf_eq (fun _ => ?_) (fun h => absurd rfl h)⟩
  exact rw_writes_c hs (by intro e he; simp [he]) (by decide) (by decide) ⟨_, rfl, gi rfl⟩
end Go.Proofs.Ytkokdeenniejjaa
