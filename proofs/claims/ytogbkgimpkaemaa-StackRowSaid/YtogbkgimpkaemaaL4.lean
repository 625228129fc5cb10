import Derived.Test.YtogbkgimpkaemaaL3
import Derived.Test.YtogbkgimpkaemaaHd
namespace Go.Proofs.Ytogbkgimpkaemaa
open Go.Eng
set_option maxRecDepth 20000
/-! ### what is wrong with a history -/
def lrange (o : LOp) : Prop := (0 ≤ o.hand ∧ o.hand ≤ 3) ∧ (0 ≤ o.kind ∧ o.kind ≤ 1) ∧ (0 ≤ o.arg ∧ o.arg ≤ 1000) ∧ (-1 ≤ o.got ∧ o.got ≤ 8000) ∧ (0 ≤ o.frm ∧ o.frm ≤ 1000) ∧ (0 ≤ o.too ∧ o.too ≤ 1000)
def lclash (p o : LOp) : Prop := p.hand = o.hand ∧ p.frm < o.too ∧ o.frm < p.too
open Classical in
noncomputable def lchk : List LOp → List LOp → Int
  | _, [] => 0
  | pre, o :: l => if ¬ lrange o then 1 else if o.frm ≥ o.too then 3 else if ∃ p ∈ pre, lclash p o then 6 else lchk (pre ++ [o]) l
noncomputable def lcheck (k : Int) (os : List LOp) : Int := if ¬ (0 ≤ k ∧ k ≤ 2) then 1 else if os.length > 8 then 4 else lchk [] os
structure LOk (k : Int) (os : List LOp) : Prop where
  k0 : 0 ≤ k
  k2 : k ≤ 2
  n : os.length ≤ 8
  r : ∀ o ∈ os, lrange o
  t : ∀ o ∈ os, o.frm < o.too
  c : os.Pairwise fun p o => ¬ lclash p o
open Classical in
theorem lchk_zero : ∀ {l pre : List LOp}, lchk pre l = 0 ↔ (∀ o ∈ l, lrange o) ∧ (∀ o ∈ l, o.frm < o.too) ∧ (∀ p ∈ pre, ∀ o ∈ l, ¬ lclash p o) ∧ l.Pairwise fun p o => ¬ lclash p o
  | [], pre => by simp [lchk]
  | o :: l, pre => by
    unfold lchk
    by_cases h1 : lrange o
    · rw [if_neg (not_not_intro h1)]
      by_cases h2 : o.frm ≥ o.too
      · rw [if_pos h2]
        constructor
        · intro h; cases h
        · rintro ⟨_, b, _⟩; have := b o (by simp); omega
      · rw [if_neg h2]
        by_cases h3 : ∃ p ∈ pre, lclash p o
        · rw [if_pos h3]
          constructor
          · intro h; cases h
          · rintro ⟨_, _, c, _⟩
            obtain ⟨p, hp, hc⟩ := h3
            exact absurd hc (c p hp o (by simp))
        · rw [if_neg h3, lchk_zero]
          constructor
          · rintro ⟨a, b, c, d⟩
            refine ⟨?_, ?_, ?_, List.pairwise_cons.2 ⟨fun x hx => c o (by simp) x hx, d⟩⟩
            · intro x hx; exact (List.mem_cons.1 hx).elim (fun e => e ▸ h1) (a x)
            · intro x hx; exact (List.mem_cons.1 hx).elim (fun e => by subst e; omega) (b x)
            · intro p hp x hx
              rcases List.mem_cons.1 hx with rfl | hx
              · exact fun hc => h3 ⟨p, hp, hc⟩
              · exact c p (by simp [hp]) x hx
          · rintro ⟨a, b, c, d⟩
            obtain ⟨d1, d2⟩ := List.pairwise_cons.1 d
            refine ⟨fun x hx => a x (by simp [hx]), fun x hx => b x (by simp [hx]), fun p hp x hx => ?_, d2⟩
            simp only [List.mem_append, List.mem_singleton] at hp
            rcases hp with hp | rfl
            · exact c p hp x (by simp [hx])
            · exact d1 x hx
    · rw [if_pos h1]
      constructor
      · intro h; cases h
      · rintro ⟨a, _⟩; exact absurd (a o (by simp)) h1
theorem lcheck_zero {k : Int} {os : List LOp} : lcheck k os = 0 ↔ LOk k os := by
  unfold lcheck
  by_cases h1 : 0 ≤ k ∧ k ≤ 2
  · rw [if_neg (not_not_intro h1)]
    by_cases h2 : os.length > 8
    · rw [if_pos h2]
      exact ⟨fun h => (by cases h), fun h => absurd h.n (by omega)⟩
    · rw [if_neg h2, lchk_zero]
      exact ⟨fun ⟨a, b, _, d⟩ => ⟨h1.1, h1.2, by omega, a, b, d⟩, fun h => ⟨h.r, h.t, by simp, h.c⟩⟩
  · rw [if_pos h1]
    exact ⟨fun h => (by cases h), fun h => absurd ⟨h.k0, h.k2⟩ h1⟩
theorem LOk.ops {k : Int} {os : List LOp} (h : LOk k os) : LOps os := ⟨h.n, fun o ho => ⟨(h.r o ho).2.2.1.1, (h.r o ho).2.2.1.2, h.t o ho⟩⟩
theorem take_succ_of {α : Type} {l : List α} {j : Nat} {x : α} (h : l[j]? = some x) : l.take (j + 1) = l.take j ++ [x] := by rw [List.take_add_one, h]; rfl
theorem drop_of {α : Type} {l : List α} {j : Nat} {x : α} (h : l[j]? = some x) : l.drop j = x :: l.drop (j + 1) := by
  have hj := (List.getElem?_eq_some_iff.1 h).1
  rw [List.drop_eq_getElem_cons hj]
  rw [List.getElem?_eq_getElem hj] at h
  cases h; rfl
open Classical in
theorem lin_check_c {k : Int} {os : List LOp} {s : SV} {own : List Ent} {ro : Addr → Option Value} {post : Value → H → Prop} (hr : RdRows ⟨[], ro⟩ 6 s (os.flatMap lopV)) (hcap : s.len ≤ s.cap)
    (hk : post (errV (eno 57 (lcheck k os))) ⟨own, ro⟩) : SemCall Try.prog 36 (List.toArray [.int .i64 k, .slice s.a s.len s.cap]) ⟨own, ro⟩ post := by
  have hsl := hr.len lopV_len (by decide)
  refine f36_call _ _ _ post (within_i (fun hc => ⟨_, rfl, VIf_nb (fun _ => ret ?_) (nomatch ·)⟩) (fun k0 k2 => ⟨_, rfl, VIf_nb (nomatch ·) (fun _ => ?_)⟩))
  · rw [lcheck, if_pos hc] at hk; exact hk
  rw [lcheck, if_neg (not_not_intro ⟨k0, k2⟩)] at hk
  refine VIf_dec (fun h8 => ret ?_) (fun h8 => ?_)
  · rw [if_pos (by omega)] at hk; exact hk
  rw [if_neg (by omega)] at hk
  refine ⟨fun h => h = ⟨own, ro⟩ ∧ lchk [] os = 0, ⟨fun n i h => ∃ j : Nat, i = (j : Int) ∧ j ≤ os.length ∧ n = os.length - j ∧ h = ⟨own, ro⟩ ∧ lchk (os.take j) (os.drop j) = lchk [] os, ⟨_, gi ⟨0, rfl, Nat.zero_le _, rfl, rfl, rfl⟩⟩, ?_⟩, ?_⟩
  rotate_left
  · rintro _ _ ⟨rfl, h0⟩
    rw [h0] at hk
    exact ret hk
  rintro n _ i _ ⟨j, rfl, hj, rfl, rfl, hch⟩
  unfold f36_L3
  simp only [add_mk', Nat.zero_add, Nat.add_zero, Int.toNat_natCast]
  refine VIf_dec (fun hi => ?_) (fun hi => gi ⟨rfl, ?_⟩)
  rotate_left
  · rw [← hch, show j = os.length by omega, List.drop_length]; rfl
  obtain ⟨b, o, hb, hoj, hrow⟩ := hr.row lopV_len (by decide) (i := (j : Int)) (by omega) hi
  rw [Int.toNat_natCast] at hoj hrow
  have hrow' : ∀ {own : List Ent} (q : Nat) (v : Value), (lopV o)[q]? = some v → H.rd ⟨own, ro⟩ (Addr.add (Addr.add b (j * 6)) q) v := fun q v hv => (hrow q v hv).own (by simp) rfl
  rw [drop_of hoj] at hch
  refine ⟨fun h => h = ⟨own, ro⟩ ∧ lchk (os.take (j + 1)) (os.drop (j + 1)) = lchk [] os, ?_, ?_⟩
  rotate_left
  · rintro _ _ ⟨rfl, h2⟩
    exact ⟨⟨by omega, by omega⟩, _, by omega, gi ⟨j + 1, by omega, by omega, rfl, rfl, h2⟩⟩
  refine ⟨b, hb, by omega, hi, _, hrow' 0 _ rfl, _, hrow' 1 _ rfl, _, hrow' 2 _ rfl, _, hrow' 3 _ rfl, _, hrow' 4 _ rfl, _, hrow' 5 _ rfl, ?_⟩
  intro r21 _
  refine ⟨rfl, by kernel_rfl, wro own _ [] (allOne_lop o) rfl rfl (by simp) ?_⟩
  obtain ⟨E, hE⟩ : ∃ E : Ent, E = ⟨some r21, lopV o, 6⟩ := ⟨_, rfl⟩
  have hEE : (⟨some r21, spl [Value.int .i64 (0 : Int), .int .i64 0, .int .i64 0, .int .i64 0, .int .i64 0, .int .i64 0] 0 [Value.int .i64 o.hand, .int .i64 o.kind, .int .i64 o.arg, .int .i64 o.got, .int .i64 o.frm, .int .i64 o.too], List.length [Value.int .i64 (0 : Int), .int .i64 0, .int .i64 0, .int .i64 0, .int .i64 0, .int .i64 0]⟩ : Ent) = E := by rw [hE]; simp [spl, lopV]
  rw [hEE]
  have hEr : ∀ {own : List Ent} (q : Nat) (v : Value), E ∈ own → (lopV o)[q]? = some v → H.rd ⟨own, ro⟩ (Addr.mk r21 q none) v := fun q v hm hv => rdo E hm (by rw [hE]) (by rw [hE]; exact hv)
  refine join_b (h := ⟨own ++ [E], ro⟩) (!decide (lrange o)) ?_ ?_
  · refine ⟨_, hEr 0 _ (by simp) rfl, within_c ⟨_, rfl, VIf_not (fun h => gi ⟨rfl, by simp [lrange, h]⟩) (fun h1 => ?_)⟩⟩
    refine ⟨_, hEr 1 _ (by simp) rfl, within_c ⟨_, rfl, VIf_not (fun h => gi ⟨rfl, by simp [lrange, h]⟩) (fun h2 => ?_)⟩⟩
    refine ⟨_, hEr 2 _ (by simp) rfl, within_c ⟨_, rfl, VIf_not (fun h => gi ⟨rfl, by simp [lrange, h]⟩) (fun h3 => ?_)⟩⟩
    refine ⟨_, hEr 3 _ (by simp) rfl, within_c ⟨_, rfl, VIf_not (fun h => gi ⟨rfl, by simp [lrange, h]⟩) (fun h4 => ?_)⟩⟩
    refine ⟨_, hEr 4 _ (by simp) rfl, within_c ⟨_, rfl, VIf_not (fun h => gi ⟨rfl, by simp [lrange, h]⟩) (fun h5 => ?_)⟩⟩
    refine ⟨_, hEr 5 _ (by simp) rfl, within_c ⟨_, rfl, gi ⟨rfl, ?_⟩⟩⟩
    simp [lrange, h1, h2, h3, h4, h5]
  unfold f36_J2
  simp only [add_mk', Nat.zero_add, Nat.add_zero, Int.toNat_natCast]
  rw [lchk] at hch
  refine VIf_nb (fun hrg => ?_) (fun hrg => ?_)
  · have hrg : ¬ lrange o := by simpa using hrg
    rw [if_pos hrg] at hch
    rw [← hch] at hk
    exact ⟨⟨own, ro⟩, Gh.drop (by simp), hk⟩
  have hrg : lrange o := by simpa using hrg
  rw [if_neg (not_not_intro hrg)] at hch
  refine ⟨_, hEr 4 _ (by simp) rfl, _, hEr 5 _ (by simp) rfl, VIf_dec (fun hft => ?_) (fun hft => ?_)⟩
  · rw [if_pos hft] at hch
    rw [← hch] at hk
    exact ⟨⟨own, ro⟩, Gh.drop (by simp), hk⟩
  rw [if_neg hft] at hch
  refine ⟨by omega, by omega, ?_⟩
  refine ⟨fun h => h = ⟨own ++ [E], ro⟩ ∧ ¬ ∃ p ∈ os.take j, lclash p o, ⟨fun n i h => ∃ q : Nat, i = (q : Int) ∧ q ≤ j ∧ n = j - q ∧ h = ⟨own ++ [E], ro⟩ ∧ ¬ ∃ p ∈ os.take q, lclash p o, ⟨_, gi ⟨0, rfl, Nat.zero_le _, rfl, rfl, by simp⟩⟩, ?_⟩, ?_⟩
  rotate_left
  · rintro _ _ ⟨rfl, hn⟩
    rw [if_neg hn] at hch
    exact ⟨⟨own, ro⟩, Gh.drop (by simp), rfl, by rw [take_succ_of hoj]; exact hch⟩
  rintro n _ i _ ⟨q, rfl, hq, rfl, rfl, hn⟩
  unfold f36_L1
  simp only [add_mk', Nat.zero_add, Nat.add_zero, Int.toNat_natCast]
  refine VIf_dec (fun hi2 => ?_) (fun hi2 => gi ⟨rfl, by rw [show j = q by omega]; exact hn⟩)
  obtain ⟨b2, o2, hb2, ho2, hrow2⟩ := hr.row lopV_len (by decide) (i := (q : Int)) (by omega) (by omega)
  rw [Int.toNat_natCast] at ho2 hrow2
  have hrow2' : ∀ {own : List Ent} (q2 : Nat) (v : Value), (lopV o2)[q2]? = some v → H.rd ⟨own, ro⟩ (Addr.add (Addr.add b2 (q * 6)) q2) v := fun q2 v hv => (hrow2 q2 v hv).own (by simp) rfl
  refine ⟨b2, hb2, by omega, by omega, _, hrow2' 0 _ rfl, _, hrow2' 1 _ rfl, _, hrow2' 2 _ rfl, _, hrow2' 3 _ rfl, _, hrow2' 4 _ rfl, _, hrow2' 5 _ rfl, ?_⟩
  intro r71 _
  refine ⟨rfl, by kernel_rfl, wro (own ++ [E]) _ [] (allOne_lop o2) rfl rfl (by simp) ?_⟩
  obtain ⟨E2, hE2⟩ : ∃ E : Ent, E = ⟨some r71, lopV o2, 6⟩ := ⟨_, rfl⟩
  have hEE2 : (⟨some r71, spl [Value.int .i64 (0 : Int), .int .i64 0, .int .i64 0, .int .i64 0, .int .i64 0, .int .i64 0] 0 [Value.int .i64 o2.hand, .int .i64 o2.kind, .int .i64 o2.arg, .int .i64 o2.got, .int .i64 o2.frm, .int .i64 o2.too], List.length [Value.int .i64 (0 : Int), .int .i64 0, .int .i64 0, .int .i64 0, .int .i64 0, .int .i64 0]⟩ : Ent) = E2 := by rw [hE2]; simp [spl, lopV]
  rw [hEE2]
  have hEr2 : ∀ {own : List Ent} (q : Nat) (v : Value), E2 ∈ own → (lopV o2)[q]? = some v → H.rd ⟨own, ro⟩ (Addr.mk r71 q none) v := fun q v hm hv => rdo E2 hm (by rw [hE2]) (by rw [hE2]; exact hv)
  refine join_b (h := ⟨own ++ [E] ++ [E2], ro⟩) (decide (lclash o2 o)) ?_ ?_
  · refine ⟨_, hEr2 0 _ (by simp) rfl, _, hEr 0 _ (by simp) rfl, VIf_eq (fun h1 => ?_) (fun h1 => gi ⟨rfl, by simp [lclash, h1]⟩)⟩
    refine ⟨_, hEr2 4 _ (by simp) rfl, _, hEr 5 _ (by simp) rfl, VIf_dec (fun h2 => ?_) (fun h2 => gi ⟨rfl, by simp [lclash, h2]⟩)⟩
    refine ⟨_, hEr 4 _ (by simp) rfl, _, hEr2 5 _ (by simp) rfl, gi ⟨rfl, by simp [lclash, h1, h2]⟩⟩
  refine VIf_dec (fun hcl => ?_) (fun hcl => ?_)
  · have hmem : o2 ∈ os.take j := List.mem_of_getElem? (i := q) (by rw [List.getElem?_take, if_pos (by omega)]; exact ho2)
    rw [if_pos ⟨o2, hmem, hcl⟩] at hch
    rw [← hch] at hk
    exact ⟨⟨own, ro⟩, Gh.drop (by simp), hk⟩
  · refine ⟨⟨by omega, by omega⟩, _, by omega, ⟨own ++ [E], ro⟩, Gh.drop (by simp), q + 1, by omega, by omega, rfl, rfl, ?_⟩
    rw [take_succ_of ho2]
    rintro ⟨p, hp, hc⟩
    simp only [List.mem_append, List.mem_singleton] at hp
    rcases hp with hp | rfl
    · exact hn ⟨p, hp, hc⟩
    · exact hcl hc
end Go.Proofs.Ytogbkgimpkaemaa
