import Derived.Test.YtkokdeenniejjaaRp
import Derived.Test.YtkokdeenniejjaaEngJ
namespace Go.Proofs.Ytkokdeenniejjaa
open Go.Eng
theorem rw_fact_c {own : List Ent} {ro : Addr → Option Value} {post : Value → H → Prop} (hk : post (.bool true) ⟨own, ro⟩) : SemCall Try.prog 27 (List.toArray []) ⟨own, ro⟩ post := by
  refine f27_call _ post ?_
  refine rw_new_c (fun p L hs => ⟨_, rfl, ?_⟩)
  refine rw_ask_c own [] (by simp) hs (by decide) (fun L1 h1 => ⟨_, _, rfl, ?_⟩)
  have e1 : rwAsk 0 0 [] 0 false = (1, 0, [], true, 0) := by decide +kernel
  simp only [e1] at h1 ⊢
  refine rw_ask_c own [] rfl h1 (by decide) (fun L2 h2 => ⟨_, _, rfl, ?_⟩)
  have e2 : rwAsk 1 0 [] 1 true = (1, 0, [(1, true)], false, 0) := by decide +kernel
  simp only [e2] at h2 ⊢
  refine rw_ask_c own [] rfl h2 (by decide) (fun L3 h3 => ⟨_, _, rfl, ?_⟩)
  have e3 : rwAsk 1 0 [(1, true)] 2 false = (1, 0, [(1, true), (2, false)], false, 0) := by decide +kernel
  simp only [e3] at h3 ⊢
  refine rw_done_c own [] rfl h3 (by decide) (by decide) (fun L4 s4 e4' h4 o4 => ⟨_, _, rfl, ?_⟩)
  have e4 : rwDone 1 0 [(1, true), (2, false)] 0 = ((0, 2, [(2, false)], [1]), 0) := by decide +kernel
  simp only [e4] at h4 o4 ⊢
  have eT : ∀ (X : List Ent), own ++ (X ++ []) = own ++ X := by simp
  simp only [eT]
  refine ⟨fun b h => b = true ∧ ∃ T, h = ⟨own ++ T, ro⟩, ?_, ?_⟩
  · rw [eno_zero]
    refine VIf_nil (VIf_nil (VIf_nil (VIf_nil (VIf_b (fun _ => VIf_nb (fun _ => VIf_nb (fun _ => ?_) (nomatch ·)) (nomatch ·)) (nomatch ·)))))
    intro r _
    have hlen := o4.sl_len
    simp [ints] at hlen
    have g1 : RdSl ⟨own ++ (L4 ++ [e4']) ++ [⟨some r, [.int .i64 1], [Value.int .i64 1].length⟩], ro⟩ s4 (ints [1]) := RdSl.of_own (e := e4') (by simp) o4
    have g2 : RdSl ⟨own ++ (L4 ++ [e4']) ++ [⟨some r, [.int .i64 1], [Value.int .i64 1].length⟩], ro⟩ ⟨some (Addr.mk r 0 none), 1, 1⟩ (ints [1]) := RdSl.row (n := 1) (vs := ints [1]) (e := ⟨some r, [.int .i64 1], 1⟩) (by simp) rfl rfl
    refine same_ints_c (s2 := ⟨some (Addr.mk r 0 none), 1, 1⟩) g1 g2 (by omega) ⟨_, rfl, ?_⟩
    refine VIf_b (fun _ => ?_) (fun h => by simp at h)
    refine rw_writes_c h4 (by intro e he; simp [he]) (by decide) (by decide) ⟨_, rfl, gi ⟨rfl, _, by rw [List.append_assoc]⟩⟩
  · rintro _ b h ⟨rfl, T, rfl⟩
    exact ⟨⟨own, ro⟩, Gh.drop (by simp), hk⟩

def RwSt (p : Nat) (ro : Addr → Option Value) (h : H) : Prop := ∃ L m w q rs, h = ⟨L, ro⟩ ∧ RwAt p m w q L ∧ RwInv m w q rs

theorem RwSt.ask {p : Nat} {ro : Addr → Option Value} {L C own : List Ent} {m w : Int} {q : List (Int × Bool)} {rs : List Int} (hs : RwAt p m w q L) (hi : RwInv m w q rs) (hown : own = L ++ C) {who : Int} {wr : Bool} {K : H → Prop} {M : Value → H → Prop}
    (hM : ∀ (b : Bool) (e : Option (TypeId × Value)) h, (∃ h2, Gh h h2 ∧ K h2) → M (.tuple (List.toArray [.bool b, errV e])) h) (hK : ∀ h, RwSt p ro h → K h) : SemCall Try.prog 29 (List.toArray [.pointer (some (Addr.mk p 0 none)), .int .i64 who, .bool wr]) ⟨own, ro⟩ M := by
  refine rw_ask_c [] C hown hs (by have := hi.qlen; omega) (fun L' h' => hM _ _ _ ?_)
  obtain ⟨rs', h2⟩ := hi.ask who wr
  exact ⟨⟨L', ro⟩, Gh.drop (by simp), hK _ ⟨L', _, _, _, rs', rfl, h', h2⟩⟩

theorem RwSt.done {p : Nat} {ro : Addr → Option Value} {L C own : List Ent} {m w : Int} {q : List (Int × Bool)} {rs : List Int} (hs : RwAt p m w q L) (hi : RwInv m w q rs) (hown : own = L ++ C) {who : Int} {K : H → Prop} {M : Value → H → Prop}
    (hM : ∀ (s : SV) (e : Option (TypeId × Value)) h, (∃ h2, Gh h h2 ∧ K h2) → M (.tuple (List.toArray [.slice s.a s.len s.cap, errV e])) h) (hK : ∀ h, RwSt p ro h → K h) : SemCall Try.prog 30 (List.toArray [.pointer (some (Addr.mk p 0 none)), .int .i64 who]) ⟨own, ro⟩ M := by
  refine rw_done_c [] C hown hs (by have := hi.qlen; omega) hi.qrg (fun L' s' e' h' _ => hM s' _ _ ?_)
  obtain ⟨rs', h2, _⟩ := hi.done who
  exact ⟨⟨L', ro⟩, Gh.drop (by simp), hK _ ⟨L', _, _, _, rs', rfl, h', h2⟩⟩

theorem rwApart_c {st : SV} {rows : List (SV × List Int)} {ro : Addr → Option Value} {post : Value → H → Prop} (hr : RdRowsOf ⟨[], ro⟩ st rows) (hpost : ∀ h, post (.bool true) h) :
    SemCall Try.prog 7 (List.toArray [.slice st.a st.len st.cap]) ⟨[], ro⟩ post := by
  refine f7_call _ _ post ?_
  refine rw_fact_c ⟨_, rfl, (nomatch ·), fun _ => ?_⟩
  refine rw_new_c (fun p L hs => ⟨_, rfl, ?_⟩)
  refine ⟨fun _ => True, ⟨fun n i h => RwSt p ro h ∧ 0 ≤ i ∧ i ≤ 100 ∧ n = (100 - i).toNat, ⟨100, gi ⟨⟨L, 0, 0, [], [], rfl, hs, RwInv.start⟩, by omega, by omega, rfl⟩⟩, ?_⟩, fun _ h _ => ret (hpost h)⟩
  rintro n _ i h ⟨⟨L, m, w, q, rs, rfl, hs, hi⟩, hi0, hi1, rfl⟩
  have hr : ∀ {own}, RdRowsOf ⟨own, ro⟩ st rows := hr.mono (by simp) (fun _ _ h => h)
  refine join_and (VIf_dec (fun hi' => ?_) (fun _ => gi trivial))
  refine hr.idx hi0 hi'.1 fun t xs ht htr => ?_
  have htr : ∀ {own}, RdSl ⟨own, ro⟩ t (ints xs) := by
    intro own
    have hm : (t, xs) ∈ rows := List.mem_of_getElem? ht
    exact (hr (own := own)).2 _ hm
  refine ⟨RwSt p ro, VIf_eq (fun h2 => ?_) (fun _ => gi ⟨L, m, w, q, rs, rfl, hs, hi⟩), ?_⟩
  · refine htr.idx (by omega) (by omega) fun x0 _ => htr.idx (by omega) (by omega) fun x1 _ => ?_
    exact RwSt.ask (C := []) hs hi (by simp) (fun b e h hK => ⟨b, e, rfl, hK⟩) (fun _ h => h)
  rintro _ h ⟨L, m, w, q, rs, rfl, hs, hi⟩
  refine ⟨RwSt p ro, VIf_eq (fun h1 => ?_) (fun _ => gi ⟨L, m, w, q, rs, rfl, hs, hi⟩), ?_⟩
  · refine htr.idx (by omega) (by omega) fun x0 _ => ?_
    exact RwSt.done (C := []) hs hi (by simp) (fun s e h hK => ⟨s, e, rfl, hK⟩) (fun _ h => h)
  rintro _ h ⟨L, m, w, q, rs, rfl, hs, hi⟩
  have hall : ∀ {T : List Ent}, ∀ e ∈ L, e ∈ L ++ T := fun e he => List.mem_append_left _ he
  have tail : ∀ {T : List Ent} {R : Bool → H → Prop}, (∃ h2, Gh ⟨L ++ T, ro⟩ h2 ∧ R false h2) → SemCall Try.prog 31 (List.toArray [.pointer (some (Addr.mk p 0 none))]) ⟨L ++ T, ro⟩ fun v51 h52 =>
        ∃ x53 : Int, v51 = (Value.int .i64 x53) ∧
        VIf (decide (x53 < (0 : Int))) (
          SemCall Try.prog 32 (List.toArray [.pointer (some (Addr.mk p 0 none))]) h52 fun v54 h55 =>
          ∃ x56 : Int, v54 = (Value.int .i64 x56) ∧
          VIf (x56 == (0 : Int)) (
            SemCall Try.prog 33 (List.toArray [.pointer (some (Addr.mk p 0 none))]) h55 fun v57 h58 =>
            ∃ x59 : SV, v57 = (Value.slice x59.a x59.len x59.cap) ∧
            (∃ h60, Gh h58 h60 ∧ R (decide (((x59.len : Nat) : Int) > (0 : Int))) h60)) (
            (∃ h61, Gh h55 h61 ∧ R false h61))) (
          (∃ h62, Gh h52 h62 ∧ R false h62)) := by
    intro T R hR
    refine rw_writes_c hs hall hi.w0 hi.w1 ⟨_, rfl, VIf_dec (fun hw => ?_) (fun _ => hR)⟩
    refine rw_reads_c hs hall ⟨_, rfl, VIf_eq (fun hm => ?_) (fun _ => hR)⟩
    refine rw_waits_c hs hall (by have := hi.qlen; omega) (fun s' e' o => ⟨s', rfl, ?_⟩)
    have hq : q = [] := hi.idle hm (by have := hi.w0; omega)
    have := o.sl_len
    rw [hq] at this
    simp [ints] at this
    rw [this]
    obtain ⟨h2, hg, hR⟩ := hR
    exact ⟨h2, (Gh.drop (by simp)).trans hg, hR⟩
  refine ⟨fun b h => b = false ∧ RwSt p ro h, ?_, ?_⟩
  · have hfin : ∃ h2, Gh ⟨L ++ [], ro⟩ h2 ∧ (false = false ∧ RwSt p ro h2) := ⟨⟨L, ro⟩, Gh.drop (by simp), rfl, L, m, w, q, rs, rfl, hs, hi⟩
    have tl := tail (T := []) (R := fun b h => b = false ∧ RwSt p ro h) hfin
    rw [List.append_nil] at tl
    refine rw_writes_c hs (fun _ h => h) hi.w0 hi.w1 ⟨_, rfl, VIf_dec (fun hw => ?_) (fun _ => tl)⟩
    refine rw_reads_c hs (fun _ h => h) ⟨_, rfl, VIf_ne (fun hm => absurd ?_ hm) (fun _ => tl)⟩
    exact hi.zero.2 (hi.ex (by omega))
  · rintro _ b h ⟨rfl, hI⟩
    exact VIf_b (nomatch ·) (fun _ => ⟨⟨by omega, by omega⟩, (100 - (i + 1)).toNat, by omega, gi ⟨hI, by omega, by omega, rfl⟩⟩)

theorem rwReads_c {st : SV} {rows : List (SV × List Int)} {who : Int} {ro : Addr → Option Value} {post : Value → H → Prop} (hr : RdRowsOf ⟨[], ro⟩ st rows) (hpost : ∀ h, post (.bool true) h) :
    SemCall Try.prog 9 (List.toArray [.slice st.a st.len st.cap, .int .i64 who]) ⟨[], ro⟩ post := by
  refine f9_call _ _ _ post ?_
  refine rw_fact_c ⟨_, rfl, (nomatch ·), fun _ => ?_⟩
  refine rw_new_c (fun p L hs => ⟨_, rfl, ?_⟩)
  refine ⟨RwSt p ro, ⟨fun n i h => RwSt p ro h ∧ 0 ≤ i ∧ i ≤ 80 ∧ n = (80 - i).toNat, ⟨80, gi ⟨⟨L, 0, 0, [], [], rfl, hs, RwInv.start⟩, by omega, by omega, rfl⟩⟩, ?_⟩, ?_⟩
  · rintro n _ i h ⟨⟨L, m, w, q, rs, rfl, hs, hi⟩, hi0, hi1, rfl⟩
    have hr : ∀ {own}, RdRowsOf ⟨own, ro⟩ st rows := hr.mono (by simp) (fun _ _ h => h)
    refine join_and (VIf_dec (fun hi' => ?_) (fun _ => gi ⟨L, m, w, q, rs, rfl, hs, hi⟩))
    refine hr.idx hi0 hi'.1 fun t xs ht htr => ?_
    have htr : ∀ {own}, RdSl ⟨own, ro⟩ t (ints xs) := by
      intro own
      have hm : (t, xs) ∈ rows := List.mem_of_getElem? ht
      exact (hr (own := own)).2 _ hm
    refine ⟨RwSt p ro, VIf_eq (fun h2 => ?_) (fun _ => gi ⟨L, m, w, q, rs, rfl, hs, hi⟩), ?_⟩
    · refine htr.idx (by omega) (by omega) fun x0 _ => htr.idx (by omega) (by omega) fun x1 _ => ?_
      exact RwSt.ask (C := []) hs hi (by simp) (fun b e h hK => ⟨b, e, rfl, hK⟩) (fun _ h => h)
    rintro _ h ⟨L, m, w, q, rs, rfl, hs, hi⟩
    refine VIf_eq (fun h1 => ?_) (fun _ => ⟨⟨by omega, by omega⟩, (80 - (i + 1)).toNat, by omega, gi ⟨⟨L, m, w, q, rs, rfl, hs, hi⟩, by omega, by omega, rfl⟩⟩)
    refine htr.idx (by omega) (by omega) fun x0 _ => ?_
    exact RwSt.done (K := fun h => RwSt p ro h ∧ 0 ≤ i + 1 ∧ i + 1 ≤ 80 ∧ (80 - (i + 1)).toNat = (80 - (i + 1)).toNat) (C := []) hs hi (by simp) (fun s e h hK => ⟨s, e, rfl, ⟨by omega, by omega⟩, (80 - (i + 1)).toNat, by omega, hK⟩) (fun _ h => ⟨h, by omega, by omega, rfl⟩)
  rintro _ h ⟨L, m, w, q, rs, rfl, hs, hi⟩
  have hall : ∀ {T : List Ent}, ∀ e ∈ L, e ∈ L ++ T := fun e he => List.mem_append_left _ he
  refine rw_reads_c hs (fun _ h => h) ⟨_, rfl, ?_⟩
  refine ⟨fun b h => b = decide (w = 0 ∧ q = []) ∧ h = ⟨L, ro⟩, ?_, ?_⟩
  · refine rw_writes_c hs (fun _ h => h) hi.w0 hi.w1 ⟨_, rfl, VIf_eq (fun hw => ?_) (fun hw => gi ⟨?_, rfl⟩)⟩
    · refine rw_waits_c hs (fun _ h => h) (by have := hi.qlen; omega) (fun s' e' o => ⟨s', rfl, ⟨L, ro⟩, Gh.drop (by simp), ?_, rfl⟩)
      have := o.sl_len
      simp at this
      have hw0 : w = 0 := by omega
      rw [this]
      by_cases hq : q = []
      · simp [hq, hw0]
      · have : q.length ≠ 0 := fun h => hq (List.eq_nil_of_length_eq_zero h)
        simp [hq]
    · have : ¬ w = 0 := by omega
      simp [this]
  rintro _ b h ⟨rfl, rfl⟩
  refine rw_ask_c [] [] (by simp) hs (by have := hi.qlen; omega) (fun L1 h1 => ⟨_, _, rfl, ?_⟩)
  have mem : ∀ e ∈ L1, e ∈ [] ++ (L1 ++ []) := by simp
  by_cases hx : ¬ (0 ≤ who ∧ who ≤ 7)
  · simp only [rwAsk, if_pos hx] at h1 ⊢
    refine VIf_nerr (fun _ => rw_reads_c h1 mem ⟨_, rfl, ret ?_⟩) (nomatch ·)
    simpa using hpost _
  by_cases hc : who ∈ q.map (·.1) ∨ rwIn m who = true ∨ w = who + 1
  · simp only [rwAsk, if_neg hx, if_pos hc] at h1 ⊢
    refine VIf_nerr (fun _ => rw_reads_c h1 mem ⟨_, rfl, ret ?_⟩) (nomatch ·)
    simpa using hpost _
  have hx' : 0 ≤ who ∧ who ≤ 7 := Decidable.of_not_not hx
  have fin : ∀ (is : Bool) (m' w' : Int) (q' : List (Int × Bool)) (L1 : List Ent), RwAt p m' w' q' L1 → (is = true → m' = m + 2 ^ who.toNat) → is = decide (w = 0 ∧ q = []) →
      ∃ R64 : Bool → H → Prop, (VIf (!(is == decide (w = 0 ∧ q = []))) (∃ h65, Gh ⟨[] ++ (L1 ++ []), ro⟩ h65 ∧ R64 true h65)
        (SemCall Try.prog 18 (List.toArray [(Value.int .i64 who), (Value.int .i64 (0 : Int)), (Value.int .i64 (7 : Int))]) ⟨[] ++ (L1 ++ []), ro⟩ fun v66 h67 =>
          ∃ x68 : Bool, v66 = (Value.bool x68) ∧ (∃ h69, Gh h67 h69 ∧ R64 (!x68) h69))) ∧
      ∀ (_ : F) (x70 : Bool) (h71 : H), R64 x70 h71 → f9_J4 who post (some (Addr.mk p 0 none)) m is x70 h71 := by
    intro is m' w' q' L1 h1 him his
    refine ⟨fun b h => b = false ∧ h = ⟨[] ++ (L1 ++ []), ro⟩, VIf_b (fun h => by rw [his] at h; simp at h) (fun _ => in_c ⟨_, rfl, gi ⟨by simp [hx'], rfl⟩⟩), ?_⟩
    rintro _ b h ⟨rfl, rfl⟩
    refine VIf_b (nomatch ·) (fun _ => ?_)
    refine ⟨fun x h => x = 2 ^ who.toNat ∧ h = ⟨[] ++ (L1 ++ []), ro⟩, ⟨fun n x i h => (∃ k : Nat, i = k ∧ x = 2 ^ k ∧ k ≤ who.toNat ∧ n = who.toNat - k) ∧ h = ⟨[] ++ (L1 ++ []), ro⟩, ⟨who.toNat, gi ⟨⟨0, rfl, rfl, Nat.zero_le _, rfl⟩, rfl⟩⟩, ?_⟩, ?_⟩
    · rintro n _ x i h ⟨⟨k, rfl, rfl, hk, rfl⟩, rfl⟩
      have pw : ∀ k : Nat, k ≤ 8 → In64 ((2 : Int) ^ k) := by unfold In64; decide
      refine VIf_dec (fun hlt => ⟨?_, ⟨by omega, by omega⟩, who.toNat - (k + 1), by omega, gi ⟨⟨k + 1, rfl, ?_, by omega, rfl⟩, rfl⟩⟩) (fun hlt => gi ⟨?_, rfl⟩)
      · have := pw (k + 1) (by omega); rwa [Int.pow_succ] at this
      · rw [Int.pow_succ]
      · rw [show who.toNat = k by omega]
    rintro _ x h ⟨rfl, rfl⟩
    refine ⟨fun b h => b = true, VIf_nb (fun _ => gi rfl) (fun his' => rw_reads_c h1 (by simp) ⟨_, rfl, ?_, gi ?_⟩), fun _ b h hb => ret (hb ▸ hpost _)⟩
    · have h0 := hi.m0
      have h1 := hi.m1
      have pw : ∀ k : Nat, k ≤ 8 → 0 ≤ (2 : Int) ^ k ∧ (2 : Int) ^ k ≤ 256 := by decide
      have := pw who.toNat (by omega)
      exact ⟨by omega, by omega⟩
    · rw [him his']; simp
  by_cases hf : q = [] ∧ rwFits m w (who, false) = true
  · simp only [rwAsk, if_neg hx, if_neg hc, if_pos hf] at h1 ⊢
    refine VIf_nerr (fun h => absurd rfl h) (fun _ => fin true _ _ _ L1 h1 (fun _ => ?_) ?_)
    · have hb := (rw_bits_or m.toNat (by have := hi.m0; have := hi.m1; omega) who.toNat (by omega)).2.2.2
      have hm : ((m.toNat : Nat) : Int) = m := by have := hi.m0; omega
      have hw : ((who.toNat : Nat) : Int) = who := by omega
      rw [hm, hw] at hb
      have : rwIn m who = false := by
        cases h : rwIn m who with
        | false => rfl
        | true => exact absurd (.inr (.inl h)) hc
      exact hb this
    · have : w = 0 := by have := hf.2; simp [rwFits] at this; exact this
      simp [hf.1, this]
  · simp only [rwAsk, if_neg hx, if_neg hc, if_neg hf] at h1 ⊢
    refine VIf_nerr (fun h => absurd rfl h) (fun _ => fin false _ _ _ L1 h1 (nomatch ·) ?_)
    refine (decide_eq_false (fun h => hf ⟨h.2, ?_⟩)).symm
    simp [rwFits, h.1]
end Go.Proofs.Ytkokdeenniejjaa
