import Derived.Test.YtkokdeenniejjaaDoorC
namespace Go.Proofs.YtkokdeenniejjaaDoor
open Go.Eng
set_option maxRecDepth 20000
/-! ### a lock for readers and writers -/
def wantV (x : Int × Bool) : List Value := [.int .i64 x.1, .bool x.2]
theorem wantV_len (x : Int × Bool) : (wantV x).length = 2 := rfl
def wants (q : List (Int × Bool)) : List Value := q.flatMap wantV
theorem allOne_wants : ∀ q, allOne (wants q)
  | [] => trivial
  | _ :: q => ⟨rfl, rfl, allOne_wants q⟩
theorem grows_wants : Grows Tryd.prog 82 88 2 := ⟨rfl, rfl, by decide, by decide, ⟨_, rfl, rfl, ⟨rfl, rfl, trivial⟩⟩⟩

def rwE (p : Nat) (m w : Int) (s : SV) : Ent := ⟨some p, [.int .i64 m, .int .i64 w, .slice s.a s.len s.cap], 3⟩
def RwAt (p : Nat) (m w : Int) (q : List (Int × Bool)) (L : List Ent) : Prop := ∃ (s : SV) (e : Ent), L = [rwE p m w s, e] ∧ OwnsSl 2 s e (wants q)

def rwFits (m w : Int) (x : Int × Bool) : Bool := w == 0 && (!x.2 || m == 0)
def rwHas (m w : Int) (x : Int × Bool) : Int × Int := if x.2 then (m, x.1 + 1) else (bitsV .or m (1 * 2 ^ x.1.toNat), w)
/-- is who among those in the set? -/
def rwIn (m who : Int) : Bool := bitsV .and (m.fdiv (2 ^ who.toNat)) 1 == 1

theorem rw_new_c {own : List Ent} {ro : Addr → Option Value} {post : Value → H → Prop} (hk : ∀ p L, RwAt p 0 0 [] L → post (.pointer (some (Addr.mk p 0 none))) ⟨own ++ L, ro⟩) : SemCall Tryd.prog 27 (List.toArray []) ⟨own, ro⟩ post := by
  refine f27_call _ post ?_
  intro r _
  refine ⟨_, Gh.phantom (own ++ [_]) [] ro 0 |> (by simpa using ·), ?_⟩
  have := hk r [rwE r 0 0 ⟨none, 0, 0⟩, ⟨none, [], 0⟩] ⟨⟨none, 0, 0⟩, _, rfl, OwnsSl.nil 2⟩
  simpa [rwE] using this

theorem has_pure {m i : Int} (h0 : 0 ≤ i) (h1 : i ≤ 63) : PureCall Tryd.prog 45 (List.toArray [.int .i64 m, .int .i64 i]) (.bool (rwIn m i)) := by
  intro w
  go_enter Tryd.func45, Tryd.ntmps45
  go_wp2
  all_goals go_ret
  refine ⟨?_, rfl⟩
  unfold rwIn
  rw [Int.fdiv_eq_ediv_of_nonneg _ (Int.le_of_lt (Int.pow_pos (by decide)))]
  rfl

theorem rw_has_bit_c {m who : Int} {h : H} {post : Value → H → Prop} (h0 : 0 ≤ who) (h1 : who ≤ 7) (hk : post (.bool (rwIn m who)) h) : SemCall Tryd.prog 45 (List.toArray [.int .i64 m, .int .i64 who]) h post :=
  f45_call m who h post ⟨h0, by omega, ret hk⟩

theorem rw_fits_c {p : Nat} {m w : Int} {s : SV} {x : Int × Bool} {own : List Ent} {ro : Addr → Option Value} {post : Value → H → Prop} (hL : rwE p m w s ∈ own) (hk : post (.bool (rwFits m w x)) ⟨own, ro⟩) :
    SemCall Tryd.prog 52 (List.toArray [.pointer (some (Addr.mk p 0 none)), .agg (List.toArray [.int .i64 x.1, .bool x.2])]) ⟨own, ro⟩ post := by
  refine f52_call _ _ _ _ post ?_
  intro r _
  have m1 : rwE p m w s ∈ own ++ [⟨some r, [.int .i64 x.1, .bool x.2], 2⟩] := by simp [hL]
  have m2 : (⟨some r, [.int .i64 x.1, .bool x.2], 2⟩ : Ent) ∈ own ++ [⟨some r, [.int .i64 x.1, .bool x.2], 2⟩] := by simp
  simp only [add_mk', Option.some.injEq, exists_eq_left']
  refine ⟨fun b h => h.own = own ++ [⟨some r, [.int .i64 x.1, .bool x.2], 2⟩] ∧ h.ro = ro ∧ b = rwFits m w x, ⟨w, rdo _ m1 rfl rfl, VIf_eq (fun hw => ⟨x.2, rdo _ m2 rfl rfl, VIf_nb (fun hx => gi ⟨rfl, rfl, by simp [rwFits, hw, hx]⟩) (fun hx => ⟨m, rdo _ m1 rfl rfl, gi ⟨rfl, rfl, by simp [rwFits, hw, hx]⟩⟩)⟩) (fun hw => gi ⟨rfl, rfl, by simp [rwFits, hw]⟩)⟩, ?_⟩
  rintro _ b ⟨o, r'⟩ ⟨h1, h2, rfl⟩
  simp only at h1 h2
  subst h1; subst h2
  exact ⟨⟨own, r'⟩, Gh.drop (by simp), hk⟩

theorem rw_hold_c {p : Nat} {m w : Int} {s : SV} {x : Int × Bool} {own : List Ent} (A C : List Ent) (hown : own = A ++ rwE p m w s :: C) {ro : Addr → Option Value} {post : Value → H → Prop} (h0 : 0 ≤ x.1) (h1 : x.1 ≤ 7)
    (hk : post (.tuple (List.toArray [])) ⟨A ++ rwE p (rwHas m w x).1 (rwHas m w x).2 s :: C, ro⟩) :
    SemCall Tryd.prog 53 (List.toArray [.pointer (some (Addr.mk p 0 none)), .agg (List.toArray [.int .i64 x.1, .bool x.2])]) ⟨own, ro⟩ post := by
  refine f53_call _ _ _ _ post ?_
  intro r _
  subst hown
  simp only [add_mk', Option.some.injEq, exists_eq_left']
  have m1 : rwE p m w s ∈ (A ++ rwE p m w s :: C) ++ [⟨some r, [.int .i64 x.1, .bool x.2], 2⟩] := by simp
  have m2 : (⟨some r, [.int .i64 x.1, .bool x.2], 2⟩ : Ent) ∈ (A ++ rwE p m w s :: C) ++ [⟨some r, [.int .i64 x.1, .bool x.2], 2⟩] := by simp
  refine ⟨x.2, rdo _ m2 rfl rfl, VIf_b (fun hx => ⟨x.1, rdo _ m2 rfl rfl, ⟨by omega, by omega⟩, ?_⟩) (fun hx => ⟨m, rdo _ m1 rfl rfl, x.1, rdo _ m2 rfl rfl, h0, by omega, ?_, ?_⟩)⟩
  · refine wro A (rwE p m w s) (C ++ [_]) (by simp [allOne]; rfl) (by simp; rfl) rfl (by simp [rwE]) ?_
    refine ⟨⟨A ++ rwE p m (x.1 + 1) s :: C, ro⟩, ?_, ?_⟩
    · exact Gh.drop (own := A ++ rwE p m (x.1 + 1) s :: (C ++ [_])) (by simp)
    · simpa [rwHas, hx] using hk
  · have : ∀ n : Nat, n ≤ 7 → In64 (1 * 2 ^ n) := by unfold In64; decide
    exact this _ (by omega)
  · refine wro A (rwE p m w s) (C ++ [_]) (by simp [allOne]; rfl) (by simp; rfl) rfl (by simp [rwE]) ?_
    refine ⟨⟨A ++ rwE p (bitsV .or m (1 * 2 ^ x.1.toNat)) w s :: C, ro⟩, ?_, ?_⟩
    · exact Gh.drop (own := A ++ rwE p (bitsV .or m (1 * 2 ^ x.1.toNat)) w s :: (C ++ [_])) (by simp)
    · simpa [rwHas, hx] using hk

theorem rw_same_c {x : Int × Bool} {who : Int} {a : Addr} {own : List Ent} {ro : Addr → Option Value} {post : Value → H → Prop} (hr : H.rd ⟨own, ro⟩ a (.int .i64 who)) (hk : post (.bool (x.1 == who)) ⟨own, ro⟩) :
    SemCall Tryd.prog 51 (List.toArray [.agg (List.toArray [.int .i64 x.1, .bool x.2]), .pointer (some a)]) ⟨own, ro⟩ post := by
  refine f51_call _ _ _ _ post ?_
  intro r _
  simp only [add_mk']
  refine ⟨x.1, rdo ⟨some r, [.int .i64 x.1, .bool x.2], 2⟩ (by simp) rfl rfl, who, ?_, ⟨own, ro⟩, Gh.drop (by simp), hk⟩
  rw [add_zero']
  exact hr.own (by intro e he; simp [he]) rfl

theorem rw_index_c {s : SV} {q : List (Int × Bool)} {who : Int} {a : Addr} {own : List Ent} {ro : Addr → Option Value} {post : Value → H → Prop} (hs : RdRows ⟨own, ro⟩ 2 s (wants q)) (hl : s.len ≤ 1000000000) (hr : H.rd ⟨own, ro⟩ a (.int .i64 who))
    (hk : ∀ k : Int, (0 ≤ k ↔ who ∈ q.map (·.1)) → post (.int .i64 k) ⟨own, ro⟩) :
    SemCall Tryd.prog 57 (List.toArray [.slice s.a s.len s.cap, .func (.func 51) #[] #[.pointer (some a)]]) ⟨own, ro⟩ post := by
  refine f57_call s a _ post ?_
  have hlen := hs.len wantV_len (by decide)
  refine ⟨fun h' => h' = ⟨own, ro⟩ ∧ who ∉ q.map (·.1), ⟨fun n i h' => h' = ⟨own, ro⟩ ∧ ∃ k : Nat, i = k ∧ k ≤ q.length ∧ n = q.length - k ∧ who ∉ (q.take k).map (·.1), ⟨_, gi ⟨rfl, 0, rfl, Nat.zero_le _, rfl, by simp⟩⟩, ?_⟩, ?_⟩
  · rintro n _ i h' ⟨rfl, k, rfl, hk1, rfl, hk2⟩
    refine VIf_dec (fun hx => ?_) (fun hx => gi ⟨rfl, ?_⟩)
    · have hx' : k < q.length := by omega
      obtain ⟨b, x, hb, hq, hrow⟩ := hs.row wantV_len (by decide) (by omega) hx
      simp only [Int.toNat_natCast] at hq
      refine ⟨b, hb, by omega, hx, x.1, hrow 0 _ rfl, x.2, hrow 1 _ rfl, rw_same_c hr ⟨_, rfl, VIf_eq (fun he => ret (hk _ ?_)) (fun he => ⟨⟨by omega, by omega⟩, _, ?_, gi ⟨rfl, k + 1, rfl, by omega, rfl, ?_⟩⟩)⟩⟩
      · refine ⟨fun _ => List.mem_map.2 ⟨x, List.mem_of_getElem? hq, he⟩, fun _ => by omega⟩
      · omega
      · rw [List.take_add_one, hq, List.map_append, List.mem_append]
        rintro (hc | hc)
        · exact hk2 hc
        · simp at hc; exact he hc.symm
    · have : k = q.length := by omega
      subst this
      simpa using hk2
  · rintro _ h' ⟨rfl, hn⟩
    exact ret (hk _ ⟨fun h => by omega, fun h => absurd h hn⟩)

theorem rw_contains_c {s : SV} {q : List (Int × Bool)} {who : Int} {a : Addr} {own : List Ent} {ro : Addr → Option Value} {post : Value → H → Prop} (hs : RdRows ⟨own, ro⟩ 2 s (wants q)) (hl : s.len ≤ 1000000000) (hr : H.rd ⟨own, ro⟩ a (.int .i64 who))
    (hk : post (.bool (decide (who ∈ q.map (·.1)))) ⟨own, ro⟩) :
    SemCall Tryd.prog 50 (List.toArray [.slice s.a s.len s.cap, .func (.func 51) #[] #[.pointer (some a)]]) ⟨own, ro⟩ post := by
  refine f50_call s _ _ post (rw_index_c hs hl hr (fun k hk1 => ⟨k, rfl, ret ?_⟩))
  have : decide (k ≥ 0) = decide (who ∈ q.map (·.1)) := decide_eq_decide.2 hk1
  rw [this]; exact hk

/-- what Ask does: the set, the writer, who waits, the answer, the error -/
def rwAsk (m w : Int) (q : List (Int × Bool)) (who : Int) (wr : Bool) : Int × Int × List (Int × Bool) × Bool × Int :=
  if ¬ (0 ≤ who ∧ who ≤ 7) then (m, w, q, false, 1)
  else if who ∈ q.map (·.1) ∨ rwIn m who = true ∨ w = who + 1 then (m, w, q, false, 7)
  else if q = [] ∧ rwFits m w (who, wr) = true then ((rwHas m w (who, wr)).1, (rwHas m w (who, wr)).2, q, true, 0)
  else (m, w, q ++ [(who, wr)], false, 0)

theorem rw_ask_c {p : Nat} {m w who : Int} {wr : Bool} {q : List (Int × Bool)} {L own : List Ent} {ro : Addr → Option Value} {post : Value → H → Prop} (A C : List Ent) (hown : own = A ++ (L ++ C)) (hs : RwAt p m w q L) (hl : q.length < 1000000000)
    (hk : ∀ L', RwAt p (rwAsk m w q who wr).1 (rwAsk m w q who wr).2.1 (rwAsk m w q who wr).2.2.1 L' → post (.tuple (List.toArray [.bool (rwAsk m w q who wr).2.2.2.1, errV (eno 66 (rwAsk m w q who wr).2.2.2.2)])) ⟨A ++ (L' ++ C), ro⟩) :
    SemCall Tryd.prog 30 (List.toArray [.pointer (some (Addr.mk p 0 none)), .int .i64 who, .bool wr]) ⟨own, ro⟩ post := by
  refine lift A C hown (Q := fun L' => RwAt p (rwAsk m w q who wr).1 (rwAsk m w q who wr).2.1 (rwAsk m w q who wr).2.2.1 L') ?_ hk
  clear hk hown post
  intro post hk
  refine f30_call _ _ _ _ post ⟨rfl, ?_⟩
  show H.new _ _ _
  obtain ⟨s, e, rfl, ho⟩ := hs
  have hsl := ho.rows_len wantV_len (by decide)
  intro r _
  simp only [f30_J2, f30_J1, add_mk', Option.some.injEq, exists_eq_left']
  have h1 : H.rd ⟨[rwE p m w s, e] ++ [⟨some r, [.int .i64 who], 1⟩], ro⟩ (Addr.mk r 0 none) (.int .i64 who) := rdo ⟨some r, [.int .i64 who], 1⟩ (by simp) rfl rfl
  have hp : rwE p m w s ∈ [rwE p m w s, e] ++ [⟨some r, [.int .i64 who], 1⟩] := by simp
  refine ⟨who, h1, within_c ⟨_, rfl, VIf_not (fun hx => ?_) (fun hx => ?_)⟩⟩
  · simp only [rwAsk, if_pos hx] at hk
    exact ⟨_, Gh.drop (own' := [rwE p m w s, e]) (by simp), hk _ ⟨s, e, rfl, ho⟩⟩
  have hrows : RdRows ⟨[rwE p m w s, e] ++ [⟨some r, [.int .i64 who], 1⟩], ro⟩ 2 s (wants q) := RdRows.of_own (e := e) (by simp) ho
  refine ⟨s, rdo _ hp rfl rfl, rw_contains_c hrows (by omega) h1 ⟨_, rfl, ?_⟩⟩
  refine join_b (h := ⟨[rwE p m w s, e] ++ [⟨some r, [.int .i64 who], 1⟩], ro⟩) (decide (who ∈ q.map (·.1) ∨ rwIn m who = true ∨ w = who + 1)) ?_ (VIf_dec (fun hc => ?_) (fun hc => ?_))
  · refine VIf_dec (fun hm => gi ⟨rfl, (decide_eq_true (.inl hm)).symm⟩) (fun hm => ⟨m, rdo _ hp rfl rfl, who, h1, _, has_pure hx.1 (by omega), _, rfl, VIf_b (fun hb => gi ⟨rfl, (decide_eq_true (.inr (.inl hb))).symm⟩) (fun hb => ⟨w, rdo _ hp rfl rfl, who, h1, ⟨by omega, by omega⟩, gi ⟨rfl, ?_⟩⟩)⟩)
    by_cases hw : w = who + 1
    · rw [decide_eq_true (.inr (.inr hw))]; simp [hw]
    · rw [decide_eq_false (fun h => h.elim hm (fun h => h.elim (fun h => by rw [hb] at h; cases h) hw))]; simpa using hw
  · simp only [rwAsk, if_neg (not_not_intro hx), if_pos hc] at hk
    exact ⟨_, Gh.drop (own' := [rwE p m w s, e]) (by simp), hk _ ⟨s, e, rfl, ho⟩⟩
  refine ⟨who, h1, ?_⟩
  intro r2 _
  refine ⟨rfl, rfl, wro ([rwE p m w s, e] ++ [⟨some r, [.int .i64 who], 1⟩]) ⟨some r2, [.int .i64 0, .bool false], 2⟩ [] (by simp [allOne]; exact ⟨rfl, rfl⟩) rfl rfl (by simp) ?_⟩
  have hp2 : rwE p m w s ∈ ([rwE p m w s, e] ++ [⟨some r, [.int .i64 who], 1⟩]) ++ [⟨some r2, [.int .i64 who, .bool wr], 2⟩] := by simp
  have hw2 : (⟨some r2, [.int .i64 who, .bool wr], 2⟩ : Ent) ∈ ([rwE p m w s, e] ++ [⟨some r, [.int .i64 who], 1⟩]) ++ [⟨some r2, [.int .i64 who, .bool wr], 2⟩] := by simp
  have hd : ∀ {E F : Ent}, List.Sublist [rwE p m w s, E] (([rwE p m w s, E] ++ [⟨some r, [.int .i64 who], 1⟩]) ++ [F]) := by intro E F; simp
  refine join_b (h := ⟨([rwE p m w s, e] ++ [⟨some r, [.int .i64 who], 1⟩]) ++ [⟨some r2, [.int .i64 who, .bool wr], 2⟩], ro⟩) (decide (q = [] ∧ rwFits m w (who, wr) = true)) ?_ (VIf_dec (fun hf => ?_) (fun hf => ?_))
  · refine ⟨s, rdo _ hp2 rfl rfl, VIf_eq (fun h0 => ?_) (fun h0 => gi ⟨rfl, ?_⟩)⟩
    · have hq : q = [] := List.eq_nil_of_length_eq_zero (by omega)
      refine ⟨who, rdo _ hw2 rfl rfl, wr, rdo _ hw2 rfl rfl, rw_fits_c (x := (who, wr)) hp2 ⟨_, rfl, gi ⟨rfl, ?_⟩⟩⟩
      simp [hq]
    · refine (decide_eq_false (fun h => h0 ?_)).symm
      rw [hsl, h.1]; rfl
  · simp only [rwAsk, if_neg (not_not_intro hx), if_neg hc, if_pos hf] at hk
    refine ⟨who, rdo _ hw2 rfl rfl, wr, rdo _ hw2 rfl rfl, rw_hold_c (x := (who, wr)) [] _ rfl hx.1 hx.2 ⟨rfl, ?_⟩⟩
    refine ⟨⟨[rwE p (rwHas m w (who, wr)).1 (rwHas m w (who, wr)).2 s, e], ro⟩, Gh.drop (by simp), hk _ ⟨s, e, rfl, ho⟩⟩
  · simp only [rwAsk, if_neg (not_not_intro hx), if_neg hc, if_neg hf] at hk
    have fin : ∀ (T : List Ent), H.new ⟨[rwE p m w s, e] ++ T, ro⟩ [.int .i64 who, .bool wr] fun r50 h51 => appVC Tryd.prog 82 (.slice s.a s.len s.cap) (.slice (some (Addr.mk r50 0 none)) 1 1) h51 fun x52 h53 =>
        H.wr h53 (Addr.mk p (0 + 2) none) [.slice x52.a x52.len x52.cap] fun h55 => VRet h55 (.tuple (List.toArray [.bool false, .nilIface])) post := by
      intro T
      refine app_row grows_wants (vs := [.int .i64 who, .bool wr]) rfl ⟨rfl, rfl, trivial⟩ [rwE p m w s] e T rfl ho (by omega) (fun s' e' o _ => ?_)
      refine wro [] (rwE p m w s) (e' :: T) (by simp [allOne]; rfl) rfl rfl (by simp [rwE]) ⟨⟨[rwE p m w s', e'], ro⟩, ?_, hk _ ⟨s', e', rfl, ?_⟩⟩
      · exact Gh.drop (own := rwE p m w s' :: e' :: T) (by simp)
      · simpa [wants, wantV] using o
    have fin2 := fin ([⟨some r, [.int .i64 who], 1⟩] ++ [⟨some r2, [.int .i64 who, .bool wr], 2⟩])
    refine ⟨⟨s, rdo _ hp2 rfl rfl, who, rdo _ hw2 rfl rfl, wr, rdo _ hw2 rfl rfl, fin2⟩, who, rdo _ hw2 rfl rfl, wr, rdo _ hw2 rfl rfl, ⟨s, rdo _ hp2 rfl rfl, fin2⟩, ?_⟩
    intro r3 hr3
    exact ⟨s, rdo _ (List.mem_append_left _ hp2) rfl rfl, fin2 r3 hr3⟩
end Go.Proofs.YtkokdeenniejjaaDoor
