
import Derived.Test.YtnppmcgmmdcpiaaGreatDoorLa2
namespace Go.Proofs.YtnppmcgmmdcpiaaGreatDoor
open Go.Eng
set_option maxRecDepth 20000
theorem ends_text {t : List UInt8} (h : t.length = 0 ∨ ∃ hp : t.length - 1 < t.length, t[t.length - 1] = 10) : Ends t := by
  intro h0
  have hp := List.length_pos_iff.2 h0
  rcases h with h | ⟨h1, h2⟩
  · omega
  · rw [List.getLast?_eq_getElem?, List.getElem?_eq_getElem h1, h2]
/-- a text behind which a line stands -/
theorem dsess_more {t s : List UInt8} (h : Ends t) (hs : 10 ∉ s) : dsess x0 (t ++ (s ++ [10])) = dsess x0 t ++ ((dans (dend x0 t) s).2 ++ [10]) ∧ dend x0 (t ++ (s ++ [10])) = (dans (dend x0 t) s).1 := by
  have h1 := h.whole.app x0 (s ++ [10])
  have h2 := dsess_line (x := dend x0 t) (l := []) hs
  rw [dsess_nil, dend_nil] at h2
  rw [h1.1, h1.2, h2.1, h2.2]
  exact ⟨rfl, rfl⟩
theorem row_text {a b c : Nat} (ha : a < 3) (hb : b < 3) (hc : c < 3) : listB sRow (natI [a, b, c]) = [114, 111, 119, 32, UInt8.ofNat (48 + a), 32, UInt8.ofNat (48 + b), 32, UInt8.ofNat (48 + c)] := by
  simp only [listB, natI, List.map_cons, List.map_nil, List.flatMap_cons, List.flatMap_nil, Int.toNat_natCast]
  rw [dec_small (by omega), dec_small (by omega), dec_small (by omega)]
  rfl
/-- what is asked of a text: 2900 bytes, and an end -/
theorem safe_pre {t : List UInt8} {own : List Ent} {ro : Addr → Option Value} {K : Bool → H → Prop} (h1 : (∀ h, h = (⟨own, ro⟩ : H) → K true h)) (h2 : t.length ≤ 2900 → Ends t → ∀ h, h = (⟨own, ro⟩ : H) → K false h) :
    ∃ R4 : Bool → H → Prop, (VIf (decide (((ByteArray.size (bs t) : Nat) : Int) > (2900 : Int))) (∃ h5, Gh ⟨own, ro⟩ h5 ∧ R4 true h5) (VIf (decide (((ByteArray.size (bs t) : Nat) : Int) > (0 : Int))) (In64 (((ByteArray.size (bs t) : Nat) : Int) - (1 : Int)) ∧ (0 : Int) ≤ (((ByteArray.size (bs t) : Nat) : Int) - (1 : Int)) ∧ (((ByteArray.size (bs t) : Nat) : Int) - (1 : Int)) < ((ByteArray.size (bs t) : Nat) : Int) ∧
      (∃ h6, Gh ⟨own, ro⟩ h6 ∧ R4 (((((ByteArray.data (bs t)).toList.getD ((((ByteArray.size (bs t) : Nat) : Int) - (1 : Int))).toNat 0).toNat : Nat) : Int) != (10 : Int)) h6)) (∃ h7, Gh ⟨own, ro⟩ h7 ∧ R4 false h7))) ∧ ∀ (_ : F) (x8 : Bool) (h9 : H), R4 x8 h9 → K x8 h9 := by
  rw [bs_size]
  refine ⟨fun c h => h = (⟨own, ro⟩ : H) ∧ (c = false → t.length ≤ 2900 ∧ Ends t), VIf_dec (fun h => gi ⟨rfl, (nomatch ·)⟩) (fun h => VIf_dec (fun hp => ⟨⟨by omega, by omega⟩, by omega, by omega, gi ⟨rfl, fun hc => ⟨by omega, ?_⟩⟩⟩) (fun hp => gi ⟨rfl, fun _ => ⟨by omega, ends_text (.inl (by omega))⟩⟩)), ?_⟩
  · have hj : t.length - 1 < t.length := by omega
    rw [show ((t.length : Nat) : Int) - 1 = ((t.length - 1 : Nat) : Int) by omega, byte_at t _ hj] at hc
    refine ends_text (.inr ⟨hj, byte_eq.1 ?_⟩)
    simpa using hc
  · rintro _ c h ⟨rfl, hc⟩
    cases c with
    | true => exact h1 _ rfl
    | false => exact h2 (hc rfl).1 (hc rfl).2 _ rfl
def pw (k : Nat) : Int := if k = 0 then 1 else if k = 1 then 10 else 100
theorem pw_sum : ∀ a, a < 3 → ∀ b, b < 3 → ∀ c, c < 3 → a ≠ b → a ≠ c → b ≠ c → pw a + (pw b + pw c) = 111 := by
  intro a ha b hb c hc h1 h2 h3
  unfold pw
  repeat' split
  all_goals omega
theorem pw_b (k : Nat) : 1 ≤ pw k ∧ pw k ≤ 100 := by
  unfold pw
  repeat' split
  all_goals omega
def pws : List Nat → Int
  | [] => 0
  | k :: l => pw k + pws l
theorem pws_snoc (l : List Nat) (k : Nat) : pws (l ++ [k]) = pws l + pw k := by
  induction l with
  | nil => simp [pws]
  | cons a l ih => simp only [List.cons_append, pws, ih]; omega
theorem pws_b : ∀ (l : List Nat), 0 ≤ pws l ∧ pws l ≤ 100 * l.length
  | [] => by simp [pws]
  | k :: l => by
    have := pws_b l
    have hk := pw_b k
    simp only [pws, List.length_cons]
    omega
theorem digit_nat : ∀ k, k < 3 → ((UInt8.ofNat (48 + k)).toNat : Nat) = 48 + k := by decide
set_option maxHeartbeats 1000000 in
theorem deskSafe_c {s : ByteArray} {ro : Addr → Option Value} {T : Nat} (hG : HasErrT ro) (hTab : HasTab ro) (hN : HasNum ro) (hM : HasMax ro) :
    SemCall Tryz.prog 9 #[.string s] ⟨[shE 4 T 20], ro⟩ (fun v _ => v = .bool true) := by
  rw [bs_of s]
  generalize s.data.toList = t
  refine f9_call _ _ _ ?_
  unfold f9_sem
  refine drun_c (t := sFree) (T := T) (by simp) hG hTab hN hM (fun ro1 m1 => ⟨_, rfl, free_fact ?_⟩)
  refine safe_pre (fun h hh => ?_) (fun hl hE h hh => ?_)
  · subst hh
    exact VIf_b (fun _ => ret rfl) (nomatch ·)
  subst hh
  unfold f9_J3
  refine VIf_b (nomatch ·) (fun _ => ?_)
  rw [show ByteArray.mk (List.toArray [(114 : UInt8), (111 : UInt8), (119 : UInt8), (10 : UInt8)]) = bs (sRow ++ [10]) from rfl, bs_app, bs_size, bs_size]
  have h4 : (sRow ++ [(10 : UInt8)]).length = 4 := rfl
  refine ⟨by rw [h4]; omega, ?_⟩
  have hmore := (dsess_more (s := sRow) hE (by decide)).1
  have hDI : DI (dend x0 t) := x0_DI.end'
  have hsh := dsess_short t.length x0 t (Nat.le_refl _) x0_DI
  have hen := dsess_ends t.length x0 t (Nat.le_refl _)
  rw [ans_row] at hmore
  obtain ⟨r, hr, hr3, hrn, hrl⟩ := hDI.row
  rw [hr, Option.getD_some] at hmore
  obtain ⟨a, b, c, rfl⟩ : ∃ a b c, r = [a, b, c] := by
    match r, hr3 with
    | [a, b, c], _ => exact ⟨a, b, c, rfl⟩
  have ha : a < 3 := hrl a (by simp)
  have hb : b < 3 := hrl b (by simp)
  have hc : c < 3 := hrl c (by simp)
  have hab : a ≠ b ∧ a ≠ c ∧ b ≠ c := by simpa [and_assoc] using hrn
  dsimp only at hmore
  rw [row_text ha hb hc] at hmore
  have hno : (10 : UInt8) ∉ [114, 111, 119, 32, UInt8.ofNat (48 + a), 32, UInt8.ofNat (48 + b), 32, UInt8.ofNat (48 + c)] := by
    rw [← row_text ha hb hc]
    exact (listB_ok (by decide) (by
      intro n hn
      simp only [natI, List.map_cons, List.map_nil, List.mem_cons, List.not_mem_nil, or_false] at hn
      omega)).1
  refine drun_c (T := T) (by simp) (hG.up m1) (hTab.up m1) (hN.up m1) (hM.up m1) (fun ro2 m2 => ⟨_, rfl, ?_⟩)
  rw [drun_small (by rw [List.length_append, h4]; omega), hmore]
  generalize dsess x0 t = u at hsh hen ⊢
  refine lastline_c hen hno (by simp only [List.length_append, List.length_cons, List.length_nil]; omega) ⟨_, rfl, ?_⟩
  obtain ⟨q, hq⟩ : ∃ q, q = [114, 111, 119, 32, UInt8.ofNat (48 + a), 32, UInt8.ofNat (48 + b), 32, UInt8.ofNat (48 + c)] ++ [10] := ⟨_, rfl⟩
  have hql : q.length = 10 := by rw [hq]; rfl
  have hq3 : q.take 3 = [114, 111, 119] := by rw [hq]; rfl
  have hqs : ∀ k (hk : k < 3), q[3 + 2 * k]'(by omega) = 32 := by
    intro k hk
    match k, hk with
    | 0, _ => simp [hq]
    | 1, _ => simp [hq]
    | 2, _ => simp [hq]
  have hqd : ∀ k (hk : k < 3), q[4 + 2 * k]'(by omega) = UInt8.ofNat (48 + [a, b, c][k]) := by
    intro k hk
    match k, hk with
    | 0, _ => simp [hq]
    | 1, _ => simp [hq]
    | 2, _ => simp [hq]
  rw [← hq]
  clear hmore hno hq
  refine ⟨fun c h => c = false ∧ h = (⟨[shE 4 T 20], ro2⟩ : H), VIf_ne (fun h => absurd (by rw [bs_size, hql]; rfl) h) (fun _ => ⟨by omega, by rw [bs_size, hql]; omega, gi ⟨?_, rfl⟩⟩), ?_⟩
  · rw [show (3 : Int).toNat = 3 from rfl, bs_ext q 3 (by omega), hq3, show ByteArray.mk (List.toArray [(114 : UInt8), (111 : UInt8), (119 : UInt8)]) = bs [114, 111, 119] from rfl]
    exact bs_lit rfl
  rintro _ _ _ ⟨rfl, rfl⟩
  refine VIf_b (nomatch ·) (fun _ => ?_)
  refine ⟨fun i h => i = pws [a, b, c] ∧ ∃ own, h = (⟨own, ro2⟩ : H), ⟨fun n z i h => ∃ (k : Nat) (own : List Ent), i = (k : Int) ∧ k ≤ 3 ∧ n = 3 - k ∧ z = pws ([a, b, c].take k) ∧ h = (⟨own, ro2⟩ : H), ⟨_, gi ⟨0, _, rfl, by omega, rfl, rfl, rfl⟩⟩, ?_⟩, ?_⟩
  · rintro n _ z i h ⟨k, own, rfl, hk, rfl, rfl, rfl⟩
    unfold f9_L2
    refine VIf_dec (fun hi => ?_) (fun hi => gi ⟨by rw [show k = 3 by omega]; rfl, own, rfl⟩)
    have hk3 : k < 3 := by omega
    have hd := hqd k hk3
    have hs := hqs k hk3
    have hkl : k < [a, b, c].length := hk3
    have hv : [a, b, c][k] < 3 := hrl _ (List.getElem_mem _)
    have e4 : (4 : Int) + 2 * (k : Int) = ((4 + 2 * k : Nat) : Int) := by omega
    have e3 : (3 : Int) + 2 * (k : Int) = ((3 + 2 * k : Nat) : Int) := by omega
    have b4 := byte_at q (4 + 2 * k) (by omega)
    have b3 := byte_at q (3 + 2 * k) (by omega)
    have dn := digit_nat _ hv
    rw [hd, dn] at b4
    rw [hs] at b3
    rw [bs_size, hql, e4, e3, b4, b3]
    refine ⟨⟨by omega, by omega⟩, ⟨by omega, by omega⟩, by omega, by omega, fun c h => c = false ∧ h = (⟨own, ro2⟩ : H), ⟨⟨by omega, by omega⟩, ⟨by omega, by omega⟩, by omega, by omega, ?_⟩, ?_⟩
    · refine VIf_ne (fun h => absurd rfl h) (fun _ => VIf_dec (fun h => by omega) (fun _ => gi ⟨decide_eq_false (by omega), rfl⟩))
    rintro _ _ _ ⟨rfl, rfl⟩
    unfold f9_J1
    refine VIf_b (nomatch ·) (fun _ => ?_)
    intro r35 _
    rw [e4, b4]
    have hpb := pws_b ([a, b, c].take k)
    rw [List.length_take] at hpb
    have hpk := pw_b [a, b, c][k]
    generalize hvv : [a, b, c][k] = v at hv hpk
    refine ⟨⟨by omega, by omega⟩, ⟨by omega, by omega⟩, Addr.mk r35 0 none, rfl, by omega, by omega, pw v, ?_, ⟨by omega, by omega⟩, ⟨by omega, by omega⟩, 3 - (k + 1), by omega, gi ⟨k + 1, _, by omega, by omega, rfl, ?_, rfl⟩⟩
    · rw [show (((48 + v : Nat) : Int) - 48).toNat * 1 = v by omega, add_mk', add_mk']
      refine rdo ⟨some r35, [.int .i64 1, .int .i64 10, .int .i64 100], 3⟩ (by simp) rfl ?_
      match v, hv with
      | 0, _ => rfl
      | 1, _ => rfl
      | 2, _ => rfl
    · rw [List.take_add_one, List.getElem?_eq_getElem hkl, Option.toList_some, pws_snoc, hvv]
  · rintro _ z h ⟨rfl, own, rfl⟩
    refine ret ?_
    have := pw_sum a ha b hb c hc hab.1 hab.2.1 hab.2.2
    rw [show pws [a, b, c] = 111 by simp only [pws]; omega]
    rfl
end Go.Proofs.YtnppmcgmmdcpiaaGreatDoor
