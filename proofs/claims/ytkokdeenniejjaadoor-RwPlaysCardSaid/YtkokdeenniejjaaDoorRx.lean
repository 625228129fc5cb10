import Derived.Test.YtkokdeenniejjaaDoorRw
namespace Go.Proofs.YtkokdeenniejjaaDoor
open Go.Eng
set_option maxRecDepth 20000
theorem rw_reads_c {p : Nat} {m w : Int} {q : List (Int × Bool)} {L own : List Ent} {ro : Addr → Option Value} {post : Value → H → Prop} (hs : RwAt p m w q L) (hL : ∀ e ∈ L, e ∈ own) (hk : post (.int .i64 m) ⟨own, ro⟩) :
    SemCall Tryd.prog 33 (List.toArray [.pointer (some (Addr.mk p 0 none))]) ⟨own, ro⟩ post := by
  refine f33_call _ _ post ?_
  obtain ⟨s, e, rfl, ho⟩ := hs
  simp only [f33_sem, add_mk', Option.some.injEq, exists_eq_left']
  exact ⟨m, rdo _ (hL _ (.head _)) rfl rfl, ret hk⟩

theorem rw_writes_c {p : Nat} {m w : Int} {q : List (Int × Bool)} {L own : List Ent} {ro : Addr → Option Value} {post : Value → H → Prop} (hs : RwAt p m w q L) (hL : ∀ e ∈ L, e ∈ own) (h0 : 0 ≤ w) (h1 : w ≤ 8) (hk : post (.int .i64 (w - 1)) ⟨own, ro⟩) :
    SemCall Tryd.prog 34 (List.toArray [.pointer (some (Addr.mk p 0 none))]) ⟨own, ro⟩ post := by
  refine f34_call _ _ post ?_
  obtain ⟨s, e, rfl, ho⟩ := hs
  simp only [f34_sem, add_mk', Option.some.injEq, exists_eq_left']
  exact ⟨w, rdo _ (hL _ (.head _)) rfl rfl, ⟨by omega, by omega⟩, ret hk⟩

theorem rw_waits_c {p : Nat} {m w : Int} {q : List (Int × Bool)} {L own : List Ent} {ro : Addr → Option Value} {post : Value → H → Prop} (hs : RwAt p m w q L) (hL : ∀ e ∈ L, e ∈ own) (hl : q.length ≤ 1000000)
    (hk : ∀ (s' : SV) (e' : Ent), OwnsSl 1 s' e' (ints (q.map (·.1))) → post (.slice s'.a s'.len s'.cap) ⟨own ++ [e'], ro⟩) :
    SemCall Tryd.prog 35 (List.toArray [.pointer (some (Addr.mk p 0 none))]) ⟨own, ro⟩ post := by
  refine f35_call _ _ post ?_
  obtain ⟨s, e, rfl, ho⟩ := hs
  have hsl := ho.rows_len wantV_len (by decide)
  simp only [f35_sem, add_mk', Option.some.injEq, exists_eq_left']
  refine ⟨s, rdo _ (hL _ (.head _)) rfl rfl, ?_⟩
  refine ⟨fun o h => ∃ e', h = ⟨own ++ [e'], ro⟩ ∧ OwnsSl 1 o e' (ints (q.map (·.1))), ⟨fun n o i h => ∃ (e' : Ent) (k : Nat), h = ⟨own ++ [e'], ro⟩ ∧ OwnsSl 1 o e' (ints ((q.take k).map (·.1))) ∧ i = k ∧ k ≤ q.length ∧ n = q.length - k,
    ⟨q.length, ⟨own ++ [⟨none, [], 0⟩], ro⟩, by simpa using Gh.phantom own [] ro 0, _, 0, rfl, OwnsSl.nil 1, rfl, Nat.zero_le _, rfl⟩, ?_⟩, ?_⟩
  · rintro n _ o i h ⟨e', k, rfl, ho', rfl, hk1, rfl⟩
    refine VIf_dec (fun hx => ?_) (fun hx => ?_)
    · have hrows : ∀ {T : List Ent}, RdRows ⟨own ++ T, ro⟩ 2 s (wants q) := RdRows.of_own (e := e) (List.mem_append_left _ (hL _ (by simp))) ho
      obtain ⟨b, x, hb, hq, hrow⟩ := (hrows (T := [e'])).row wantV_len (by decide) (by omega) hx
      simp only [Int.toNat_natCast] at hq hrow
      have hol := ho'.sl_len
      simp only [ints_length, List.length_map, List.length_take] at hol
      refine ⟨b, hb, by omega, hx, x.1, hrow 0 _ rfl, x.2, hrow 1 _ rfl, ?_⟩
      intro r _
      refine ⟨rfl, rfl, wro (own ++ [e']) ⟨some r, [.int .i64 0, .bool false], 2⟩ [] (by simp [allOne]; exact ⟨rfl, rfl⟩) rfl rfl (by simp) ?_⟩
      refine ⟨x.1, rdo ⟨some r, [.int .i64 x.1, .bool x.2], 2⟩ (by simp [spl]) rfl rfl, ?_⟩
      refine app_row grows_ints (vs := [.int .i64 x.1]) rfl ⟨rfl, trivial⟩ own e' [⟨some r, [.int .i64 x.1, .bool x.2], 2⟩] (by simp [spl]) ho' (by omega) (fun s' e2 o2 _ => ?_)
      refine ⟨⟨by omega, by omega⟩, q.length - (k + 1), by omega, ⟨own ++ [e2], ro⟩, Gh.drop (by simp), e2, k + 1, rfl, ?_, rfl, by omega, rfl⟩
      rw [List.take_add_one, hq, List.map_append]
      simpa [ints, intV] using o2
    · refine gi ⟨e', rfl, ?_⟩
      rw [List.take_of_length_le (by omega)] at ho'
      exact ho'
  · rintro _ o h ⟨e', rfl, ho'⟩
    exact ret (hk o e' ho')

/-- whoever waited, and may now, has it -/
def rwServe (m w : Int) : List (Int × Bool) → Int × Int × List (Int × Bool) × List Int
  | [] => (m, w, [], [])
  | x :: q => if rwFits m w x = true then ((rwServe (rwHas m w x).1 (rwHas m w x).2 q).1, (rwServe (rwHas m w x).1 (rwHas m w x).2 q).2.1, (rwServe (rwHas m w x).1 (rwHas m w x).2 q).2.2.1, x.1 :: (rwServe (rwHas m w x).1 (rwHas m w x).2 q).2.2.2) else (m, w, x :: q, [])

/-- what Done does -/
def rwDone (m w : Int) (q : List (Int × Bool)) (who : Int) : (Int × Int × List (Int × Bool) × List Int) × Int :=
  if ¬ (0 ≤ who ∧ who ≤ 7) then ((m, w, q, []), 1)
  else if w = who + 1 then (rwServe m 0 q, 0)
  else if rwIn m who = true then (rwServe (bitsV .andNot m (1 * 2 ^ who.toNat)) w q, 0)
  else ((m, w, q, []), 5)

theorem rw_pow {n : Nat} (h : n ≤ 7) : In64 (1 * 2 ^ n) := by
  have : ∀ n : Nat, n ≤ 7 → In64 (1 * 2 ^ n) := by unfold In64; decide
  exact this n h

theorem rw_done_c {p : Nat} {m w who : Int} {q : List (Int × Bool)} {L own : List Ent} {ro : Addr → Option Value} {post : Value → H → Prop} (A C : List Ent) (hown : own = A ++ (L ++ C)) (hs : RwAt p m w q L) (hl : q.length ≤ 1000000) (hq : ∀ x ∈ q, 0 ≤ x.1 ∧ x.1 ≤ 7)
    (hk : ∀ L' s' e', RwAt p (rwDone m w q who).1.1 (rwDone m w q who).1.2.1 (rwDone m w q who).1.2.2.1 L' → OwnsSl 1 s' e' (ints (rwDone m w q who).1.2.2.2) →
      post (.tuple (List.toArray [.slice s'.a s'.len s'.cap, errV (eno 66 (rwDone m w q who).2)])) ⟨A ++ ((L' ++ [e']) ++ C), ro⟩) :
    SemCall Tryd.prog 32 (List.toArray [.pointer (some (Addr.mk p 0 none)), .int .i64 who]) ⟨own, ro⟩ post := by
  refine lift2 A C hown (Q := fun v L2 => ∃ L' s' e', L2 = L' ++ [e'] ∧ v = .tuple (List.toArray [.slice s'.a s'.len s'.cap, errV (eno 66 (rwDone m w q who).2)]) ∧ RwAt p (rwDone m w q who).1.1 (rwDone m w q who).1.2.1 (rwDone m w q who).1.2.2.1 L' ∧ OwnsSl 1 s' e' (ints (rwDone m w q who).1.2.2.2)) ?_
    (by rintro v L2 ⟨L', s', e', rfl, rfl, h1, h2⟩; exact hk L' s' e' h1 h2)
  clear hk hown post
  intro post hk0
  have hk : ∀ L' s' e', RwAt p (rwDone m w q who).1.1 (rwDone m w q who).1.2.1 (rwDone m w q who).1.2.2.1 L' → OwnsSl 1 s' e' (ints (rwDone m w q who).1.2.2.2) → post (.tuple (List.toArray [.slice s'.a s'.len s'.cap, errV (eno 66 (rwDone m w q who).2)])) ⟨L' ++ [e'], ro⟩ := fun L' s' e' h1 h2 => hk0 _ _ ⟨L', s', e', rfl, rfl, h1, h2⟩
  clear hk0
  refine f32_call _ _ _ post ?_
  obtain ⟨s, e, rfl, ho⟩ := hs
  simp only [f32_sem, add_mk', Option.some.injEq, exists_eq_left']
  have hph : ∀ {E F : Ent}, Gh ⟨[E, F], ro⟩ ⟨[E, F] ++ [⟨none, [], 0⟩], ro⟩ := by intro E F; simpa using Gh.phantom [E, F] [] ro 0
  refine within_c ⟨_, rfl, VIf_not (fun hx => ?_) (fun hx => ?_)⟩
  · simp only [rwDone, if_pos hx] at hk
    exact ⟨_, hph, hk _ ⟨none, 0, 0⟩ _ ⟨s, e, rfl, ho⟩ (OwnsSl.nil 1)⟩
  refine ⟨w, rdo _ (.head _) rfl rfl, ⟨by omega, by omega⟩, ?_⟩
  refine ⟨fun h => ∃ m1 w1, h = ⟨[rwE p m1 w1 s, e] ++ [⟨none, [], 0⟩], ro⟩ ∧ rwDone m w q who = (rwServe m1 w1 q, 0), VIf_eq (fun hw => ?_) (fun hw => ⟨m, rdo _ (.head _) rfl rfl, rw_has_bit_c hx.1 hx.2 ⟨_, rfl, VIf_b (fun hb => ?_) (fun hb => ?_)⟩⟩), ?_⟩
  · refine wro [] (rwE p m w s) [e] (by simp [allOne]; rfl) rfl rfl (by simp [rwE]) ⟨_, hph, m, 0, rfl, ?_⟩
    simp only [rwDone, if_neg (not_not_intro hx), if_pos hw]
  · refine ⟨m, rdo _ (.head _) rfl rfl, hx.1, by omega, rw_pow (by omega), wro [] (rwE p m w s) [e] (by simp [allOne]; rfl) rfl rfl (by simp [rwE]) ⟨_, hph, _, w, rfl, ?_⟩⟩
    simp only [rwDone, if_neg (not_not_intro hx), if_neg hw, if_pos hb]
  · have : ¬ rwIn m who = true := by rw [hb]; simp
    simp only [rwDone, if_neg (not_not_intro hx), if_neg hw, if_neg this] at hk
    exact ⟨_, hph, hk _ ⟨none, 0, 0⟩ _ ⟨s, e, rfl, ho⟩ (OwnsSl.nil 1)⟩
  rintro _ h ⟨m1, w1, rfl, hd⟩
  rw [hd] at hk
  clear hd
  refine ⟨fun o h => ∃ L' e', h = ⟨L' ++ [e'], ro⟩ ∧ RwAt p (rwServe m1 w1 q).1 (rwServe m1 w1 q).2.1 (rwServe m1 w1 q).2.2.1 L' ∧ OwnsSl 1 o e' (ints (rwServe m1 w1 q).2.2.2),
    ⟨fun n o h => ∃ m2 w2 q2 s2 e2 e' os, h = ⟨[rwE p m2 w2 s2, e2] ++ [e'], ro⟩ ∧ OwnsSl 2 s2 e2 (wants q2) ∧ OwnsSl 1 o e' (ints os) ∧ n = q2.length ∧ os.length + q2.length ≤ 1000000 ∧ (∀ x ∈ q2, 0 ≤ x.1 ∧ x.1 ≤ 7) ∧
      rwServe m1 w1 q = ((rwServe m2 w2 q2).1, (rwServe m2 w2 q2).2.1, (rwServe m2 w2 q2).2.2.1, os ++ (rwServe m2 w2 q2).2.2.2),
      ⟨q.length, gi ⟨m1, w1, q, s, e, ⟨none, [], 0⟩, [], rfl, ho, OwnsSl.nil 1, rfl, by simpa using hl, hq, by simp⟩⟩, ?_⟩, ?_⟩
  · rintro n _ o h ⟨m2, w2, q2, s2, e2, e', os, rfl, ho2, ho', rfl, hll, hq2, hserve⟩
    have hsl := ho2.rows_len wantV_len (by decide)
    simp only [f32_L2, f32_J1, add_mk', Option.some.injEq, exists_eq_left']
    have hrows : ∀ {m w : Int} {T : List Ent}, RdRows ⟨[rwE p m w s2, e2] ++ T, ro⟩ 2 s2 (wants q2) := RdRows.of_own (e := e2) (by simp) ho2
    refine ⟨fun b h => h = ⟨[rwE p m2 w2 s2, e2] ++ [e'], ro⟩ ∧ b = (match q2 with | [] => false | x :: _ => rwFits m2 w2 x), ⟨s2, rdo _ (.head _) rfl rfl, VIf_dec (fun hp => ?_) (fun hp => gi ⟨rfl, ?_⟩)⟩, ?_⟩
    · obtain ⟨b, x, hb, hx, hrow⟩ := (hrows (m := m2) (w := w2) (T := [e'])).row wantV_len (by decide) (i := 0) (by omega) (by omega)
      refine ⟨s2, rdo _ (.head _) rfl rfl, b, hb, by omega, by omega, x.1, hrow 0 _ rfl, x.2, hrow 1 _ rfl, rw_fits_c (.head _) ⟨_, rfl, gi ⟨rfl, ?_⟩⟩⟩
      cases q2 with
      | nil => simp at hx
      | cons y q2 => simp at hx; subst hx; rfl
    · cases q2 with
      | nil => rfl
      | cons y q2 => simp at hsl; omega
    rintro _ b h ⟨rfl, rfl⟩
    cases q2 with
    | nil =>
      refine VIf_b (nomatch ·) (fun _ => gi ⟨_, e', rfl, ?_, ?_⟩)
      · rw [hserve]; exact ⟨s2, e2, rfl, ho2⟩
      · rw [hserve]; simpa [rwServe] using ho'
    | cons x q2 =>
      have hq0 := hq2 x (by simp)
      refine VIf_b (fun hf => ?_) (fun hf => ?_)
      · obtain ⟨b, y, hb, hy, hrow⟩ := (hrows (m := m2) (w := w2) (T := [e'])).row wantV_len (by decide) (i := 0) (by omega) (by simp at hsl; omega)
        have hy : x = y := by simpa using hy
        subst hy
        refine ⟨s2, rdo _ (.head _) rfl rfl, b, hb, by omega, by simp at hsl; omega, x.1, hrow 0 _ rfl, x.2, hrow 1 _ rfl, rw_hold_c [] _ rfl hq0.1 hq0.2 ⟨rfl, ?_⟩⟩
        have hrow2 : ∀ {m w : Int}, H.rd ⟨[rwE p m w s2, e2] ++ [e'], ro⟩ (Addr.add (Addr.add b ((0 : Int).toNat * 2)) 0) (.int .i64 x.1) := fun {m w} => by
          obtain ⟨b', y, hb', hy, hrow'⟩ := (hrows (m := m) (w := w) (T := [e'])).row wantV_len (by decide) (i := 0) (by omega) (by simp at hsl; omega)
          have hy : x = y := by simpa using hy
          subst hy
          have : b' = b := by rw [hb] at hb'; exact (Option.some.inj hb').symm
          subst this
          exact hrow' 0 _ rfl
        have hol := ho'.sl_len
        simp only [ints_length, List.length_cons] at hol hll
        refine ⟨s2, rdo _ (.head _) rfl rfl, b, hb, by omega, by simp at hsl; omega, x.1, by rw [add_zero']; exact hrow2, ?_⟩
        refine app_row grows_ints (vs := [.int .i64 x.1]) rfl ⟨rfl, trivial⟩ [rwE p (rwHas m2 w2 x).1 (rwHas m2 w2 x).2 s2, e2] e' [] rfl ho' (by omega) (fun s' e3 o3 _ => ?_)
        refine ⟨s2, rdo _ (.head _) rfl rfl, by omega, by simp at hsl; omega, wro [] (rwE p (rwHas m2 w2 x).1 (rwHas m2 w2 x).2 s2) [e2, e3] (by simp [allOne]; rfl) rfl rfl (by simp [rwE]) ?_⟩
        have hfr := OwnsSl.from ho2 (k := 1) (by simp at hsl; omega)
        refine ⟨q2.length, by simp, _, Gh.from [_] [e3] ro e2 (s2.cap = 1) (e2.cells.length - s2.len * 2), (rwHas m2 w2 x).1, (rwHas m2 w2 x).2, q2, ⟨if s2.cap = 1 then s2.a else Option.map (fun z => Addr.add z (1 * 2)) s2.a, s2.len - 1, s2.cap - 1⟩, _, e3, os ++ [x.1], rfl, ?_, ?_, rfl, by simp; omega, fun y hy => hq2 y (by simp [hy]), ?_⟩
        · simpa [wants, wantV] using hfr
        · simpa [ints, intV] using o3
        · rw [hserve]
          have hf' : rwFits m2 w2 x = true := hf
          simp only [rwServe, if_pos hf', List.append_assoc, List.singleton_append]
      · have hf' : ¬ rwFits m2 w2 x = true := by rw [show rwFits m2 w2 x = false from hf]; simp
        rw [hserve]
        simp only [rwServe, if_neg hf', List.append_nil]
        exact gi ⟨_, e', rfl, ⟨s2, e2, rfl, ho2⟩, ho'⟩
  · rintro _ o h ⟨L', e', rfl, h1, h2⟩
    exact ret (hk L' o e' h1 h2)
end Go.Proofs.YtkokdeenniejjaaDoor
