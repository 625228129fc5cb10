import Derived.Test.YtkokdeenniejjaaDoorRf
namespace Go.Proofs.YtkokdeenniejjaaDoor
open Go.Eng
set_option maxRecDepth 20000
/-! ### a semaphore -/

def SemAt (p : Nat) (c : Int) (ws : List Int) (L : List Ent) : Prop := ∃ (s : SV) (e : Ent), L = [⟨some p, [.int .i64 c, .slice s.a s.len s.cap], 2⟩, e] ∧ OwnsSl 1 s e (ints ws)

theorem sem_new_c {n : Int} {own : List Ent} {ro : Addr → Option Value} {post : Value → H → Prop}
    (h1 : ¬ (0 ≤ n ∧ n ≤ 1000) → post (.tuple (List.toArray [.pointer none, errV (eno 66 1)])) ⟨own, ro⟩)
    (h2 : ∀ p L, SemAt p n [] L → 0 ≤ n → n ≤ 1000 → post (.tuple (List.toArray [.pointer (some (Addr.mk p 0 none)), errV none])) ⟨own ++ L, ro⟩) : SemCall Tryd.prog 6 (List.toArray [.int .i64 n]) ⟨own, ro⟩ post := by
  refine f6_call n _ post (within_c ⟨_, rfl, VIf_not (fun hc => ret (h1 hc)) (fun hc => ?_)⟩)
  · intro r _
    refine ⟨_, Gh.phantom (own ++ [_]) [] ro 0 |> (by simpa using ·), ?_⟩
    have := h2 r [⟨some r, [.int .i64 n, .slice none 0 0], 2⟩, ⟨none, [], 0⟩] ⟨⟨none, 0, 0⟩, _, rfl, OwnsSl.nil 1⟩ hc.1 hc.2
    simpa using this

theorem sem_count_c {p : Nat} {c : Int} {ws : List Int} {L own : List Ent} {ro : Addr → Option Value} {post : Value → H → Prop} (hs : SemAt p c ws L) (hL : ∀ e ∈ L, e ∈ own) (hk : post (.int .i64 c) ⟨own, ro⟩) :
    SemCall Tryd.prog 11 (List.toArray [.pointer (some (Addr.mk p 0 none))]) ⟨own, ro⟩ post := by
  refine f11_call _ _ post ?_
  obtain ⟨s, e, rfl, ho⟩ := hs
  simp only [f11_sem, add_mk', Option.some.injEq, exists_eq_left']
  exact ⟨c, rdo _ (hL _ (.head _)) rfl rfl, ret hk⟩

theorem sem_waits_c {p : Nat} {c : Int} {ws : List Int} {L own : List Ent} {ro : Addr → Option Value} {post : Value → H → Prop} (hs : SemAt p c ws L) (hL : ∀ e ∈ L, e ∈ own) (hl : ws.length ≤ 1000000000)
    (hk : ∀ (s' : SV) (e' : Ent), OwnsSl 1 s' e' (ints ws) → post (.slice s'.a s'.len s'.cap) ⟨own ++ [e'], ro⟩) :
    SemCall Tryd.prog 13 (List.toArray [.pointer (some (Addr.mk p 0 none))]) ⟨own, ro⟩ post := by
  refine f13_call _ _ post ?_
  obtain ⟨s, e, rfl, ho⟩ := hs
  have := ho.sl_len
  rw [ints_length] at this
  simp only [f13_sem, add_mk', Option.some.injEq, exists_eq_left']
  refine ⟨s, rdo _ (hL _ (.head _)) rfl rfl, ?_⟩
  refine clone_c (RdSl.of_own (e := e) (hL _ (by simp)) ho) (by omega) (fun s' e' o => ⟨s', rfl, ret (hk s' e' o)⟩)

/-- what Take does: count, who waits, the answer, the error -/
def semTake (c : Int) (ws : List Int) (who : Int) : Int × List Int × Bool × Int :=
  if ¬ (0 ≤ who ∧ who ≤ 7) then (c, ws, false, 1) else if who ∈ ws then (c, ws, false, 7) else if c > 0 then (c - 1, ws, true, 0) else (c, ws ++ [who], false, 0)

theorem sem_take_c {p : Nat} {c who : Int} {ws : List Int} {L own : List Ent} {ro : Addr → Option Value} {post : Value → H → Prop} (A C : List Ent) (hown : own = A ++ (L ++ C)) (hs : SemAt p c ws L) (hc : c ≤ 1000) (hl : ws.length < 1000000000)
    (hk : ∀ L', SemAt p (semTake c ws who).1 (semTake c ws who).2.1 L' → post (.tuple (List.toArray [.bool (semTake c ws who).2.2.1, errV (eno 66 (semTake c ws who).2.2.2)])) ⟨A ++ (L' ++ C), ro⟩) :
    SemCall Tryd.prog 10 (List.toArray [.pointer (some (Addr.mk p 0 none)), .int .i64 who]) ⟨own, ro⟩ post := by
  refine lift A C hown (Q := fun L' => SemAt p (semTake c ws who).1 (semTake c ws who).2.1 L') ?_ hk
  clear hk hown post
  intro post hk
  refine f10_call _ _ _ post (within_c ⟨_, rfl, VIf_not (fun hx => ?_) (fun hx => ?_)⟩)
  · simp only [semTake, if_pos hx] at hk
    exact ret (hk L hs)
  obtain ⟨s, e, rfl, ho⟩ := hs
  have hsl := ho.sl_len
  rw [ints_length] at hsl
  simp only [add_mk', Option.some.injEq, exists_eq_left']
  refine ⟨s, rdo _ (.head _) rfl rfl, contains_c (RdSl.of_own (e := e) (by simp) ho) (by omega) ⟨_, rfl, VIf_dec (fun hm => ?_) (fun hm => ?_)⟩⟩
  · simp only [semTake, if_neg (not_not_intro hx), if_pos hm] at hk
    exact ret (hk _ ⟨s, e, rfl, ho⟩)
  refine ⟨c, rdo _ (.head _) rfl rfl, VIf_dec (fun hp => ?_) (fun hp => ?_)⟩
  · simp only [semTake, if_neg (not_not_intro hx), if_neg hm, if_pos hp] at hk
    refine ⟨c, rdo _ (.head _) rfl rfl, ⟨by omega, by omega⟩, wro [] _ _ (by simp [allOne]; rfl) rfl rfl (by simp) (ret (hk [_, e] ⟨s, e, ?_, ho⟩))⟩
    rfl
  · simp only [semTake, if_neg (not_not_intro hx), if_neg hm, if_neg hp] at hk
    refine ⟨s, rdo _ (.head _) rfl rfl, app_row grows_ints rfl (by simp [allOne]; rfl) [_] e [] rfl ho (by omega) (fun s' e' o _ => ?_)⟩
    refine wro [] _ _ (by simp [allOne]; rfl) rfl rfl (by simp) (ret (hk [_, e'] ⟨s', e', rfl, ?_⟩))
    simpa [ints, intV] using o

/-- what Give does -/
def semGive (c : Int) (ws : List Int) : Int × List Int × Int × Int :=
  match ws with
  | w :: ws => (c, ws, w, 0)
  | [] => if c = 1000 then (c, [], 0, 4) else (c + 1, [], -1, 0)

theorem sem_give_c {p : Nat} {c : Int} {ws : List Int} {L own : List Ent} {ro : Addr → Option Value} {post : Value → H → Prop} (A C : List Ent) (hown : own = A ++ (L ++ C)) (hs : SemAt p c ws L) (h0 : 0 ≤ c) (hc : c ≤ 1000) (hl : ws.length < 1000000000)
    (hk : ∀ L', SemAt p (semGive c ws).1 (semGive c ws).2.1 L' → post (.tuple (List.toArray [.int .i64 (semGive c ws).2.2.1, errV (eno 66 (semGive c ws).2.2.2)])) ⟨A ++ (L' ++ C), ro⟩) :
    SemCall Tryd.prog 9 (List.toArray [.pointer (some (Addr.mk p 0 none))]) ⟨own, ro⟩ post := by
  refine lift A C hown (Q := fun L' => SemAt p (semGive c ws).1 (semGive c ws).2.1 L') ?_ hk
  clear hk hown post
  intro post hk
  refine f9_call _ _ post ?_
  obtain ⟨s, e, rfl, ho⟩ := hs
  have hsl := ho.sl_len
  rw [ints_length] at hsl
  simp only [f9_sem, add_mk', Option.some.injEq, exists_eq_left']
  refine ⟨s, rdo _ (.head _) rfl rfl, VIf_dec (fun hp => ?_) (fun hp => ?_)⟩
  · cases ws with
    | nil => simp at hsl; omega
    | cons w ws =>
      have hr : RdSl ⟨[⟨some p, [.int .i64 c, .slice s.a s.len s.cap], 2⟩, e], ro⟩ s (ints (w :: ws)) := RdSl.of_own (e := e) (by simp) ho
      obtain ⟨b, hb⟩ := hr.addr (by simp [ints])
      refine ⟨s, rdo _ (.head _) rfl rfl, b, hb, by omega, by omega, w, ?_, s, rdo _ (.head _) rfl rfl, ?_⟩
      · have := hr.get hb (i := 0) (v := .int .i64 w) rfl
        simpa [Addr.add_zero'] using this
      refine delete_c [_] e [] rfl ho (by omega) (by omega) (by omega) (by simp only [List.length_cons]; omega) (fun s' e' o => ⟨s', rfl, ?_⟩)
      refine wro [] _ _ (by simp [allOne]; rfl) rfl rfl (by simp) (ret (hk [_, e'] ⟨s', e', rfl, ?_⟩))
      simpa [semGive] using o
  · cases ws with
    | cons w ws => simp at hsl; omega
    | nil =>
      refine ⟨c, rdo _ (.head _) rfl rfl, VIf_of ?_⟩
      split
      · rename_i he
        have he : c = 1000 := by simpa using he
        simp only [semGive, if_pos he] at hk
        exact ret (hk _ ⟨s, e, rfl, ho⟩)
      · rename_i he
        have he : ¬ c = 1000 := by simpa using he
        simp only [semGive, if_neg he] at hk
        refine ⟨c, rdo _ (.head _) rfl rfl, ⟨by omega, by omega⟩, wro [] _ _ (by simp [allOne]; rfl) rfl rfl (by simp) (ret (hk [_, e] ⟨s, e, rfl, ho⟩))⟩
end Go.Proofs.YtkokdeenniejjaaDoor
