import Derived.Test.YtkokdeenniejjaaDoorPe
namespace Go.Proofs.YtkokdeenniejjaaDoor
open Go.Eng
set_option maxRecDepth 20000
/-! ### bits -/
theorem bit_all : ∀ m : Nat, m < 256 → ∀ i : Nat, i < 8 → (Int.tmod ((m / 2 ^ i : Nat) : Int) 2 == 1) = pB (m : Int) i := by decide +kernel
theorem tdiv2 (a : Nat) : Int.tdiv (a : Int) 2 = ((a / 2 : Nat) : Int) := rfl
theorem ref1_bit_c {m i : Nat} {h : H} {post : Value → H → Prop} (hm : m < 256) (hi : i < 8) (hk : post (.bool (pB (m : Int) i)) h) : SemCall Tryd.prog 43 (List.toArray [.int .i64 (m : Int), .int .i64 (i : Int)]) h post := by
  refine f43_call _ _ _ post ?_
  have key : ∀ k, m / 2 ^ k < 256 := fun k => Nat.lt_of_le_of_lt (Nat.div_le_self _ _) hm
  refine ⟨fun s h' => h' = h ∧ s = ((m / 2 ^ i : Nat) : Int), ⟨fun n s k h' => h' = h ∧ ∃ j : Nat, k = j ∧ j ≤ i ∧ n = i - j ∧ s = ((m / 2 ^ j : Nat) : Int), ⟨i, gi ⟨rfl, 0, rfl, Nat.zero_le _, rfl, by simp⟩⟩, ?_⟩, ?_⟩
  · rintro n _ s k h ⟨rfl, j, rfl, hj, rfl, rfl⟩
    have kj := key j
    refine join_b (h := h) (decide (j < i ∧ m / 2 ^ j ≠ 0)) (VIf_dec (fun h1 => gi ⟨rfl, ?_⟩) (fun h1 => gi ⟨rfl, (decide_eq_false (fun h => h1 (by omega))).symm⟩)) (VIf_dec (fun h1 => ?_) (fun h1 => gi ⟨rfl, ?_⟩))
    · by_cases e : m / 2 ^ j = 0
      · rw [decide_eq_false (fun h => h.2 e), e]; rfl
      · rw [decide_eq_true ⟨by omega, e⟩]
        have : ((m / 2 ^ j : Nat) : Int) ≠ 0 := by omega
        simpa using this
    · rw [tdiv2, Nat.div_div_eq_div_mul, show 2 ^ j * 2 = 2 ^ (j + 1) from (Nat.pow_succ ..).symm]
      have k1 := key (j + 1)
      have in64 : ∀ x : Nat, x < 256 → In64 (x : Int) := fun x hx => ⟨by omega, by omega⟩
      exact ⟨by decide, in64 _ k1, ⟨by omega, by omega⟩, i - (j + 1), by omega, gi ⟨rfl, j + 1, by omega, by omega, rfl, rfl⟩⟩
    · by_cases e : j = i
      · rw [e]
      · have e0 : m / 2 ^ j = 0 := by
          by_cases e0 : m / 2 ^ j = 0
          · exact e0
          · exact absurd ⟨by omega, e0⟩ h1
        have e1 : m / 2 ^ i = 0 := by
          have : i = j + (i - j) := by omega
          rw [this, Nat.pow_add, ← Nat.div_div_eq_div_mul, e0, Nat.zero_div]
        rw [e0, e1]
  rintro _ _ _ ⟨rfl, rfl⟩
  refine ⟨by decide, ret ?_⟩
  rw [bit_all m hm i hi]
  exact hk
theorem law4_mask_c {set : Int} {n : Nat} {h : H} {post : Value → H → Prop} (hn : n ≤ 8) (hk : post (.bool (decide (0 ≤ set ∧ set < 2 ^ n))) h) : SemCall Tryd.prog 20 (List.toArray [.int .i64 set, .int .i64 (n : Int)]) h post := by
  refine f20_call _ _ _ post ?_
  refine ⟨fun p h' => h' = h ∧ p = 2 ^ n, ⟨fun m p i h' => h' = h ∧ ∃ k : Nat, i = k ∧ k ≤ n ∧ m = n - k ∧ p = 2 ^ k, ⟨n, gi ⟨rfl, 0, rfl, Nat.zero_le _, rfl, rfl⟩⟩, ?_⟩, ?_⟩
  · rintro m _ p i _ ⟨rfl, k, rfl, hk', rfl, rfl⟩
    refine VIf_dec (fun hlt => ?_) (fun hge => ?_)
    · have h2 := pow2_le (n := k + 1) (by omega)
      rw [show (2 : Int) ^ k * 2 = 2 ^ (k + 1) from (Int.pow_succ _ _).symm]
      exact ⟨⟨by omega, by omega⟩, ⟨by omega, by omega⟩, n - (k + 1), by omega, gi ⟨rfl, k + 1, by omega, by omega, rfl, rfl⟩⟩
    · obtain rfl : k = n := by omega
      exact gi ⟨rfl, rfl⟩
  rintro _ _ h ⟨rfl, rfl⟩
  refine join_b (h := h) (decide (0 ≤ set ∧ set < 2 ^ n)) (VIf_dec (fun h0 => gi ⟨rfl, decide_eq_decide.2 ⟨fun h => ⟨h0, h⟩, fun h => h.2⟩⟩) (fun h0 => gi ⟨rfl, (decide_eq_false (fun h => h0 h.1)).symm⟩)) (ret hk)
/-! ### the document's memory crashed -/
def pM (keep : Int) (k : Nat) (c : PCell) : PCell := { c with s := if pB keep k then c.a else c.s, f := false }
def pMu (keep : Int) (F : Nat → PCell) (k : Nat) : Nat → PCell := fun j => if j < k then pM keep j (F j) else F j
theorem ref4_crashed_c {n m : Nat} {F : Nat → PCell} {Nw Su Nx : SV} {own : List Ent} {ro : Addr → Option Value} {post : Value → H → Prop} (hr : MmR ro n F Nw Su Nx) (hn : n ≤ 8) (hm : m < 256)
    (hp : ∀ Nw' Su' Nx' ro', (∀ a v, ro a = some v → ro' a = some v) → MmR ro' n (fun k => pC (m : Int) k (F k)) Nw' Su' Nx' → post (mmQ Nw' Su' Nx') ⟨own, ro'⟩) :
    SemCall Tryd.prog 21 (List.toArray [.agg (List.toArray (mmC Nw Su Nx)), .int .i64 (m : Int)]) ⟨own, ro⟩ post := by
  refine f21_call _ _ _ _ _ post ?_
  refine new2 (n1 := 3) (n2 := 3) rfl rfl (fun r1 r3 => ?_)
  have m1 : ∀ {x0 x1 x2 : SV} {Z : List Ent}, mmE r1 x0 x1 x2 ∈ own ++ mmE r1 x0 x1 x2 :: Z := by simp
  have ln := rlen hr.nw
  have pu : ∀ k, k < n → ∀ j, j < n → pMu m F (k + 1) j = updN (pMu m F k) k (pM m k (F k)) j := fun k hk j hj => by
    by_cases e : j = k
    · subst e; rw [updN_same]; unfold pMu; rw [if_pos (by omega)]
    · rw [updN_ne e]; unfold pMu
      by_cases h : j < k
      · rw [if_pos h, if_pos (by omega)]
      · rw [if_neg h, if_neg (by omega)]
  refine ⟨fun h => ∃ Su' Nx' ro', h = ⟨own ++ [mmE r1 Nw Su' Nx', mmE r3 ⟨none, 0, 0⟩ ⟨none, 0, 0⟩ ⟨none, 0, 0⟩], ro'⟩ ∧ (∀ a v, ro a = some v → ro' a = some v) ∧ MmR ro' n (pMu m F n) Nw Su' Nx',
    ⟨fun mm i h => ∃ k : Nat, i = k ∧ k ≤ n ∧ mm = n - k ∧ ∃ Su' Nx' ro', h = ⟨own ++ [mmE r1 Nw Su' Nx', mmE r3 ⟨none, 0, 0⟩ ⟨none, 0, 0⟩ ⟨none, 0, 0⟩], ro'⟩ ∧ (∀ a v, ro a = some v → ro' a = some v) ∧ MmR ro' n (pMu m F k) Nw Su' Nx', ⟨n, gi ⟨0, rfl, Nat.zero_le _, rfl, Su, Nx, ro, rfl, fun _ _ h => h, ?_⟩⟩, ?_⟩, ?_⟩
  · have e : pMu m F 0 = F := by funext j; unfold pMu; rw [if_neg (by omega)]
    rw [e]; exact hr
  · rintro mm _ i _ ⟨k, rfl, hk, rfl, Su', Nx', ro', rfl, mo, hr'⟩
    refine rS0 (mmE r1 Nw Su' Nx') m1 rfl rfl (VIf_dec (fun hlt => ?_) (fun hge => ?_))
    rotate_left
    · obtain rfl : k = n := by omega
      exact gi ⟨Su', Nx', ro', rfl, mo, hr'⟩
    have hkn : k < n := by omega
    have ek : pMu m F k k = F k := by unfold pMu; rw [if_neg (by omega)]
    have ok := hr.ok k hkn
    have e0 : ∀ g : PCell → Int, rm n (fun j => g (pMu m F (k + 1) j)) = rm n (fun j => g (updN (pMu m F k) k (pM m k (F k)) j)) := fun g => rm_congr fun j hj => by rw [pu k hkn j hj]
    refine ref1_bit_c hm (by omega) ⟨_, rfl, ?_⟩
    refine ⟨fun h => ∃ Su2 ro2, h = ⟨own ++ [mmE r1 Nw Su2 Nx', mmE r3 ⟨none, 0, 0⟩ ⟨none, 0, 0⟩ ⟨none, 0, 0⟩], ro2⟩ ∧ (∀ a v, ro' a = some v → ro2 a = some v) ∧ RdSl ⟨[], ro2⟩ Su2 (ints (rm n fun j => (updN (pMu m F k) k (pM m k (F k)) j).s)), VIf_b (fun hb => ?_) (fun hb => gi ⟨Su', ro', rfl, fun _ _ h => h, ?_⟩), ?_⟩
    · refine rS0 (mmE r1 Nw Su' Nx') m1 rfl rfl (rS0 (mmE r1 Nw Su' Nx') m1 rfl rfl (rm_ati hr'.nw hkn rfl ?_))
      rw [ek]
      refine ref4_upd_c hr'.su (by omega) hkn rfl (fun Su2 ro2 q2 h2 => ⟨Su2, rfl, mm_w Nw Su2 Nx' rfl (by decide) rfl (gi ⟨Su2, ro2, rfl, q2, ?_⟩)⟩)
      rw [← upd_a (g := PCell.s) (pM m k (F k)) (v := (F k).a) (by unfold pM; simp only; rw [if_pos hb])]
      exact h2
    · rw [← upd_0 (g := PCell.s) (pM m k (F k)) (by rw [ek]; unfold pM; simp only; rw [if_neg (by rw [hb]; decide)])]
      exact hr'.su
    rintro _ _ ⟨Su2, ro2, rfl, q2, h2⟩
    refine rS0 (mmE r1 Nw Su2 Nx') m1 rfl rfl (ref4_upd_c (hr'.up q2).nx (by omega) hkn rfl (fun Nx2 ro3 q3 h3 => ⟨Nx2, rfl, mm_w Nw Su2 Nx2 rfl (by decide) rfl ?_⟩))
    refine ⟨⟨by omega, by omega⟩, n - (k + 1), by omega, gi ⟨k + 1, by omega, by omega, rfl, Su2, Nx2, ro3, rfl, fun a v h => q3 a v (q2 a v (mo a v h)), ?_⟩⟩
    have h4 := (hr'.up q2).up q3
    refine ⟨?_, ?_, ?_, fun j hj => ?_⟩
    · rw [e0 PCell.a, ← upd_0 (g := PCell.a) (pM m k (F k)) (by rw [ek]; rfl)]; exact h4.nw
    · rw [e0 PCell.s]; exact h2.mono (by simp) q3
    · rw [e0 pN, ← upd_a (g := pN) (pM m k (F k)) (v := -1) rfl]; exact h3
    · rw [pu k hkn j hj]
      by_cases e : j = k
      · subst e; rw [updN_same]; refine ⟨ok.1, ?_, fun h => nomatch h⟩
        unfold pM; simp only; split
        · exact ok.1
        · exact ok.2.1
      · rw [updN_ne e]; exact hr'.ok j hj
  rintro _ _ ⟨Su', Nx', ro', rfl, mo, hr'⟩
  have e0 : ∀ j, j < n → pMu m F n j = pM m j (F j) := fun j hj => by unfold pMu; rw [if_pos hj]
  refine rS0 (mmE r1 Nw Su' Nx') m1 rfl rfl (mm_w Su' Su' Nx' rfl (by decide) rfl ?_)
  refine mm_fin (own := own) (Y := []) (r1 := r1) (r3 := r3) (z0 := ⟨none, 0, 0⟩) (z1 := ⟨none, 0, 0⟩) (z2 := ⟨none, 0, 0⟩) (Q := mmQ) (hp Su' Su' Nx' ro' mo ⟨?_, ?_, ?_, fun j hj => ?_⟩)
  · have : rm n (fun k => (pC (m : Int) k (F k)).a) = rm n (fun k => (pMu m F n k).s) := rm_congr fun j hj => by rw [e0 j hj]; rfl
    rw [this]; exact hr'.su
  · have : rm n (fun k => (pC (m : Int) k (F k)).s) = rm n (fun k => (pMu m F n k).s) := rm_congr fun j hj => by rw [e0 j hj]; rfl
    rw [this]; exact hr'.su
  · have : rm n (fun k => pN (pC (m : Int) k (F k))) = rm n (fun k => pN (pMu m F n k)) := rm_congr fun j hj => by rw [e0 j hj]; rfl
    rw [this]; exact hr'.nx
  · have := hr'.ok j hj
    rw [e0 j hj] at this
    exact ⟨this.2.1, this.2.1, fun h => nomatch h⟩
set_option maxHeartbeats 1000000 in
theorem ref4_newmem_c {n : Nat} {own : List Ent} {ro : Addr → Option Value} {post : Value → H → Prop} (hn : n ≤ 8)
    (hp : ∀ Nw Su Nx ro', (∀ a v, ro a = some v → ro' a = some v) → MmR ro' n (fun _ => ⟨0, 0, 0, false⟩) Nw Su Nx → post (mmQ Nw Su Nx) ⟨own, ro'⟩) :
    SemCall Tryd.prog 15 (List.toArray [.int .i64 (n : Int)]) ⟨own, ro⟩ post := by
  refine SemCall.wf (fun hw => ?_)
  refine f15_call _ _ post ?_
  intro r1 f1
  have hw1 := hw.add (e := mmE r1 ⟨none, 0, 0⟩ ⟨none, 0, 0⟩ ⟨none, 0, 0⟩) f1 rfl
  have cn : 0 ≤ (n : Int) ∧ (n : Int) ≤ (n : Int) ∧ ((8 : Nat) : Int) * (n : Int) ≤ 140737488355328 ∧ (n : Int) ≤ 1000000000 := ⟨by omega, Int.le_refl _, by omega, by omega⟩
  refine ⟨cn.1, cn.2.1, cn.2.2.1, cn.2.2.2, mk1 (N := n) hw1 (fun ra hwa => ⟨cn.1, cn.2.1, cn.2.2.1, cn.2.2.2, mk1 (N := n) hwa (fun rb hwb => ?_)⟩)⟩
  intro r7 f7
  have hw7 := hwb.add (e := mmE r7 ⟨none, 0, 0⟩ ⟨none, 0, 0⟩ ⟨none, 0, 0⟩) f7 rfl
  simp only [List.append_assoc, List.cons_append, List.nil_append, Int.toNat_natCast] at hw7 ⊢
  obtain ⟨A, hA⟩ : ∃ A, A = own ++ [mmE r1 ⟨none, 0, 0⟩ ⟨none, 0, 0⟩ ⟨none, 0, 0⟩, ⟨some ra, ints (List.replicate n 0), n⟩, ⟨some rb, ints (List.replicate n 0), n⟩] := ⟨_, rfl⟩
  have eA : ∀ (x : Ent) (Y : List Ent), own ++ mmE r1 ⟨none, 0, 0⟩ ⟨none, 0, 0⟩ ⟨none, 0, 0⟩ :: ⟨some ra, ints (List.replicate n 0), n⟩ :: ⟨some rb, ints (List.replicate n 0), n⟩ :: x :: Y = A ++ x :: Y := fun x Y => by rw [hA]; simp
  have hw7 : Wf ⟨A ++ mmE r7 ⟨none, 0, 0⟩ ⟨none, 0, 0⟩ ⟨none, 0, 0⟩ :: [], ro⟩ := by rw [← eA]; exact hw7
  refine mm_put (r := r7) (a0 := ⟨some (Addr.mk ra 0 none), n, n⟩) (a1 := ⟨some (Addr.mk rb 0 none), n, n⟩) (a2 := ⟨none, 0, 0⟩) (z0 := ⟨none, 0, 0⟩) (z1 := ⟨none, 0, 0⟩) (z2 := ⟨none, 0, 0⟩) A [] (eA _ _) ?_
  refine ⟨fun h => ∃ s en, h = ⟨A ++ [mmE r7 ⟨some (Addr.mk ra 0 none), n, n⟩ ⟨some (Addr.mk rb 0 none), n, n⟩ s, en], ro⟩ ∧ Wf h ∧ OwnsSl 1 s en (ints (rm n fun _ => -1)),
    ⟨fun m i h => ∃ k : Nat, i = k ∧ k ≤ n ∧ m = n - k ∧ ∃ s en, h = ⟨A ++ [mmE r7 ⟨some (Addr.mk ra 0 none), n, n⟩ ⟨some (Addr.mk rb 0 none), n, n⟩ s, en], ro⟩ ∧ Wf h ∧ OwnsSl 1 s en (ints (rm k fun _ => -1)),
      ⟨n, ⟨A ++ [mmE r7 ⟨some (Addr.mk ra 0 none), n, n⟩ ⟨some (Addr.mk rb 0 none), n, n⟩ ⟨none, 0, 0⟩, ⟨none, [], 0⟩], ro⟩, by have := Gh.phantom (A ++ [mmE r7 ⟨some (Addr.mk ra 0 none), n, n⟩ ⟨some (Addr.mk rb 0 none), n, n⟩ ⟨none, 0, 0⟩]) [] ro 0; simp only [List.append_assoc, List.cons_append, List.nil_append, List.append_nil] at this; exact this, 0, rfl, Nat.zero_le _, rfl, ⟨none, 0, 0⟩, ⟨none, [], 0⟩, rfl, ?_, OwnsSl.nil 1⟩, ?_⟩, ?_⟩
  · have := Wf.ph (A := A ++ [mmE r7 ⟨some (Addr.mk ra 0 none), n, n⟩ ⟨some (Addr.mk rb 0 none), n, n⟩ ⟨none, 0, 0⟩]) (C := []) (ro := ro) (hw7.ids (by simp [mmE]))
    simpa using this
  · rintro m _ i _ ⟨k, rfl, hk, rfl, s, en, rfl, hw4, o⟩
    refine VIf_dec (fun hlt => ?_) (fun hge => ?_)
    rotate_left
    · obtain rfl : k = n := by omega
      exact gi ⟨s, en, rfl, hw4, o⟩
    have hs := o.sl_len
    rw [ints_length, rm_len] at hs
    refine rS0 (mmE r7 ⟨some (Addr.mk ra 0 none), n, n⟩ ⟨some (Addr.mk rb 0 none), n, n⟩ s) (by simp) rfl rfl ?_
    refine app_rowW grows_ints (vs := [.int .i64 (-1)]) rfl ⟨rfl, trivial⟩ (A ++ [mmE r7 ⟨some (Addr.mk ra 0 none), n, n⟩ ⟨some (Addr.mk rb 0 none), n, n⟩ s]) en [] (by simp) o hw4 (by omega) (fun s' en' o' l' hw6 => ?_)
    refine mm_wA A ⟨some (Addr.mk ra 0 none), n, n⟩ ⟨some (Addr.mk rb 0 none), n, n⟩ s' (C := [en']) (by simp; rfl) rfl (by decide) rfl ⟨⟨by omega, by omega⟩, n - (k + 1), by omega, gi ⟨k + 1, by omega, by omega, rfl, s', en', rfl, hw6.ids (by simp [mmE]), ?_⟩⟩
    rw [rm_succ]
    simpa [ints, intV] using o'
  rintro _ _ ⟨s, en, rfl, hw4, o⟩
  refine mm_get (r := r7) (a0 := ⟨some (Addr.mk ra 0 none), n, n⟩) (a1 := ⟨some (Addr.mk rb 0 none), n, n⟩) (a2 := s) (by simp) ?_
  refine mm_put (r := r1) (a0 := ⟨some (Addr.mk ra 0 none), n, n⟩) (a1 := ⟨some (Addr.mk rb 0 none), n, n⟩) (a2 := s) (z0 := ⟨none, 0, 0⟩) (z1 := ⟨none, 0, 0⟩) (z2 := ⟨none, 0, 0⟩) own [⟨some ra, ints (List.replicate n 0), n⟩, ⟨some rb, ints (List.replicate n 0), n⟩, mmE r7 ⟨some (Addr.mk ra 0 none), n, n⟩ ⟨some (Addr.mk rb 0 none), n, n⟩ s, en] (by rw [hA]; simp) ?_
  refine mm_get (r := r1) (a0 := ⟨some (Addr.mk ra 0 none), n, n⟩) (a1 := ⟨some (Addr.mk rb 0 none), n, n⟩) (a2 := s) (by simp) ?_
  have hsub : (own ++ [⟨some ra, ints (List.replicate n 0), n⟩, ⟨some rb, ints (List.replicate n 0), n⟩, en]).Sublist (A ++ [mmE r7 ⟨some (Addr.mk ra 0 none), n, n⟩ ⟨some (Addr.mk rb 0 none), n, n⟩ s, en]) := by
    rw [hA]
    simp only [List.append_assoc, List.cons_append, List.nil_append]
    exact List.Sublist.append_left (.cons _ (.cons_cons _ (.cons_cons _ (.cons _ (List.Sublist.refl _))))) _
  obtain ⟨ro', g, m, r⟩ := frzE (own := own) _ ro (hw4.sub hsub)
  refine ⟨⟨own, ro'⟩, (Gh.drop (own' := own ++ [⟨some ra, ints (List.replicate n 0), n⟩, ⟨some rb, ints (List.replicate n 0), n⟩, en]) (List.Sublist.append_left (.cons _ (.cons_cons _ (.cons_cons _ (.cons _ (List.Sublist.refl _))))) _)).trans g, hp _ _ _ ro' m ⟨?_, ?_, r en (by simp) _ _ o, fun _ _ => ⟨Int.le_refl _, Int.le_refl _, fun h => nomatch h⟩⟩⟩
  · rw [rm_rep]; exact r _ (.head _) _ _ (OwnsSl.at0 1 (by simp [ints]) (by simp) (by simp only [maxLen]; omega))
  · rw [rm_rep]; exact r _ (.tail _ (.head _)) _ _ (OwnsSl.at0 1 (by simp [ints]) (by simp) (by simp only [maxLen]; omega))
end Go.Proofs.YtkokdeenniejjaaDoor
