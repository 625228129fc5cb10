
import Derived.Test.YtnppmcgmmdcpiaaGreatDoorDm
import Derived.Test.YtnppmcgmmdcpiaaGreatDoorT7
namespace Go.Proofs.YtnppmcgmmdcpiaaGreatDoor
open Go.Eng
set_option maxRecDepth 20000
theorem enoS_ne {e : Int} (h0 : e ≠ 0) (h1 : e ≠ 1) (h2 : e ≠ 2) (h3 : e ≠ 3) (h4 : e ≠ 4) (h5 : e ≠ 5) (h6 : e ≠ 6) (h7 : e ≠ 7) : enoS e = [69, 114, 114, 110, 111] := by
  unfold enoS
  rw [if_neg h0, if_neg h1, if_neg h2, if_neg h3, if_neg h4, if_neg h5, if_neg h6, if_neg h7]
theorem errname_c {e : Int} {h : H} {post : Value → H → Prop} (hk : post (.string (bs (enoS e))) h) : SemCall Tryz.prog 68 (List.toArray [.int .i64 e]) h post := by
  refine f68_call e h post ?_
  refine VIf_eq (fun h => ret (by subst h; exact hk)) (fun h0 => ?_)
  refine VIf_eq (fun h => ret (by subst h; exact hk)) (fun h1 => ?_)
  refine VIf_eq (fun h => ret (by subst h; exact hk)) (fun h2 => ?_)
  refine VIf_eq (fun h => ret (by subst h; exact hk)) (fun h3 => ?_)
  refine VIf_eq (fun h => ret (by subst h; exact hk)) (fun h4 => ?_)
  refine VIf_eq (fun h => ret (by subst h; exact hk)) (fun h5 => ?_)
  refine VIf_eq (fun h => ret (by subst h; exact hk)) (fun h6 => ?_)
  refine VIf_eq (fun h => ret (by subst h; exact hk)) (fun h7 => ret ?_)
  rw [enoS_ne h0 h1 h2 h3 h4 h5 h6 h7] at hk
  exact hk
theorem codeS_ne {e : Int} (h : e ≠ 0) : codeS e = enoS e := by unfold codeS; rw [if_neg h]
theorem dtold_c {e : Int} {own : List Ent} {ro : Addr → Option Value} {post : Value → H → Prop} (hG : HasErrT ro) (hk : post (.string (bs (codeS e))) ⟨own, ro⟩) : SemCall Tryz.prog 41 (List.toArray [errV (eno 57 e)]) ⟨own, ro⟩ post := by
  refine f41_call _ _ post ?_
  intro r1 _
  by_cases h0 : e = 0
  · subst h0
    rw [show errV (eno 57 0) = .nilIface from rfl]
    refine calls_same (fun w => as_nil _ w) ⟨false, rfl, VIf_b (nomatch ·) (fun _ => ⟨⟨own, ro⟩, Gh.drop (by simp), hk⟩)⟩
  · have e1 : eno 57 e = some (57, .int .i64 e) := if_neg h0
    rw [e1]
    refine as_sem own [] hG (by simp) ⟨_, rfl, VIf_b (fun _ => ⟨e, ?_, errname_c ⟨_, rfl, ⟨⟨own, ro⟩, Gh.drop (by simp), ?_⟩⟩⟩) (nomatch ·)⟩
    · exact rdo ⟨some r1, [.int .i64 e], 1⟩ (by simp) rfl rfl
    · rw [← codeS_ne h0]; exact hk
theorem dcalled_c {e : Int} {h : H} {post : Value → H → Prop} (hk : post (.string (bs (codeS e))) h) : SemCall Tryz.prog 77 (List.toArray [.int .i64 e]) h post := by
  refine f77_call e h post (VIf_eq (fun h => ret (by subst h; exact hk)) (fun h0 => errname_c ⟨_, rfl, ret ?_⟩))
  rw [← codeS_ne h0]; exact hk
theorem listB_nil (s : List UInt8) : listB s [] = s := by simp [listB]
theorem listB_snoc (s : List UInt8) (l : List Int) (x : Int) : listB s (l ++ [x]) = listB s l ++ ([32] ++ Lib.decDigits x.toNat) := by simp [listB]
theorem listB_len {s : List UInt8} {l : List Int} (hl : ∀ x ∈ l, 0 ≤ x ∧ x ≤ 1000) : (listB s l).length ≤ s.length + 5 * l.length := by
  have := flat_short hl
  unfold listB
  rw [List.length_append]; omega
theorem take_sub {α : Type} {p : α → Prop} {l : List α} (h : ∀ x ∈ l, p x) (k : Nat) : ∀ x ∈ l.take k, p x := fun x hx => h x (List.mem_of_mem_take hx)
theorem dlist_c {s : List UInt8} {sl : SV} {xs : List Int} {own : List Ent} {ro : Addr → Option Value} {post : Value → H → Prop} {T : Nat} (hT : shE 4 T 20 ∈ own) (hTab : HasTab ro) (hr : RdSl ⟨own, ro⟩ sl (ints xs)) (hx : ∀ x ∈ xs, 0 ≤ x ∧ x ≤ 1000) (hs : s.length ≤ 1000) (hl : xs.length ≤ 1000)
    (hk : post (.string (bs (listB s xs))) ⟨own, ro⟩) : SemCall Tryz.prog 99 (List.toArray [.string (bs s), .slice sl.a sl.len sl.cap]) ⟨own, ro⟩ post := by
  refine f99_call _ _ _ post ?_
  have hlen := hr.len
  rw [ints_length] at hlen
  refine ⟨fun x h => x = bs (listB s xs) ∧ h = (⟨own, ro⟩ : H), ⟨fun n x i h => ∃ k : Nat, i = (k : Int) ∧ k ≤ xs.length ∧ n = xs.length - k ∧ x = bs (listB s (xs.take k)) ∧ h = (⟨own, ro⟩ : H), ⟨_, gi ⟨0, rfl, Nat.zero_le _, rfl, by rw [List.take_zero, listB_nil], rfl⟩⟩, ?_⟩, ?_⟩
  · rintro n _ x i h ⟨k, rfl, hk1, rfl, rfl, rfl⟩
    refine VIf_dec (fun hi => ?_) (fun hi => gi ⟨?_, rfl⟩)
    · have hkl : k < xs.length := by omega
      obtain ⟨b, hb⟩ := hr.addr (by rw [ints_length]; omega)
      have hv := hx xs[k] (List.getElem_mem _)
      have hd := dec_short (n := xs[k].toNat) (m := 4) (by omega) (by decide)
      have h2 := listB_len (s := s) (take_sub hx k)
      rw [List.length_take] at h2
      refine ⟨b, hb, by omega, by omega, xs[k], by rw [Int.toNat_natCast]; exact hr.rdi hb (List.getElem?_eq_getElem hkl), itoa_c (by omega) (by omega) hT hTab ⟨_, rfl, ?_⟩⟩
      rw [show (ByteArray.mk (Lib.itoa xs[k]).toArray) = bs (Lib.decDigits xs[k].toNat) by rw [itoa_nn hv.1]; rfl, show ByteArray.mk (List.toArray [(32 : UInt8)]) = bs [32] from rfl]
      simp only [bs_app, bs_size]
      refine ⟨by simp; omega, by simp; omega, ⟨by omega, by omega⟩, xs.length - (k + 1), by omega, gi ⟨k + 1, by omega, by omega, rfl, ?_, rfl⟩⟩
      rw [List.take_add_one, List.getElem?_eq_getElem hkl, Option.toList_some, listB_snoc]
    · rw [List.take_of_length_le (by omega)]
  · rintro _ x h ⟨rfl, rfl⟩
    exact ret hk
theorem dlisted_c {s : List UInt8} {sl : SV} {xs : List Int} {own : List Ent} {ro : Addr → Option Value} {post : Value → H → Prop} (hr : RdSl ⟨own, ro⟩ sl (ints xs)) (hx : ∀ x ∈ xs, 0 ≤ x ∧ x ≤ 1000) (hs : s.length ≤ 1000) (hl : xs.length ≤ 1000)
    (hk : post (.string (bs (listB s xs))) ⟨own, ro⟩) : SemCall Tryz.prog 78 (List.toArray [.string (bs s), .slice sl.a sl.len sl.cap]) ⟨own, ro⟩ post := by
  refine f78_call _ _ _ post ?_
  have hlen := hr.len
  rw [ints_length] at hlen
  refine ⟨fun x h => x = bs (listB s xs) ∧ h = (⟨own, ro⟩ : H), ⟨fun n x i h => ∃ k : Nat, i = (k : Int) ∧ k ≤ xs.length ∧ n = xs.length - k ∧ x = bs (listB s (xs.take k)) ∧ h = (⟨own, ro⟩ : H), ⟨_, gi ⟨0, rfl, Nat.zero_le _, rfl, by rw [List.take_zero, listB_nil], rfl⟩⟩, ?_⟩, ?_⟩
  · rintro n _ x i h ⟨k, rfl, hk1, rfl, rfl, rfl⟩
    refine VIf_dec (fun hi => ?_) (fun hi => gi ⟨?_, rfl⟩)
    · have hkl : k < xs.length := by omega
      obtain ⟨b, hb⟩ := hr.addr (by rw [ints_length]; omega)
      have hv := hx xs[k] (List.getElem_mem _)
      have hd := dec_short (n := xs[k].toNat) (m := 4) (by omega) (by decide)
      have h2 := listB_len (s := s) (take_sub hx k)
      rw [List.length_take] at h2
      rw [show ByteArray.mk (List.toArray [(32 : UInt8)]) = bs [32] from rfl]
      refine ⟨by simp only [bs_size, List.length_singleton]; omega, b, hb, by omega, by omega, xs[k], by rw [Int.toNat_natCast]; exact hr.rdi hb (List.getElem?_eq_getElem hkl), digits_c hv.1 (by omega) ⟨_, rfl, ?_⟩⟩
      simp only [bs_app, bs_size]
      refine ⟨by simp; omega, ⟨by omega, by omega⟩, xs.length - (k + 1), by omega, gi ⟨k + 1, by omega, by omega, rfl, ?_, rfl⟩⟩
      rw [List.take_add_one, List.getElem?_eq_getElem hkl, Option.toList_some, listB_snoc, List.append_assoc]
    · rw [List.take_of_length_le (by omega)]
  · rintro _ x h ⟨rfl, rfl⟩
    exact ret hk
theorem wordV_iff {l : List UInt8} {v : Nat} : wordV l = some v ↔ l.length ≤ 7 ∧ isNum l v := by
  unfold wordV
  split
  · rename_i h; rw [numV_iff]; exact ⟨fun h2 => ⟨h, h2⟩, fun h2 => h2.2⟩
  · rename_i h; exact ⟨fun h2 => (by cases h2), fun h2 => absurd h2.1 h⟩
theorem wordV_none {l : List UInt8} (h : ¬ (l.length ≤ 7 ∧ ∃ v, isNum l v)) : wordV l = none := by
  cases hv : wordV l with
  | none => rfl
  | some v => exact absurd ⟨(wordV_iff.1 hv).1, v, (wordV_iff.1 hv).2⟩ h
theorem wordsV_snoc (a : List UInt8) : ∀ (l : List (List UInt8)) {vs : List Nat} {v : Nat}, wordsV l = some vs → wordV a = some v → wordsV (l ++ [a]) = some (vs ++ [v])
  | [], vs, v, h, hv => by cases h; simp [wordsV, hv]
  | b :: l, vs, v, h, hv => by
    unfold wordsV at h
    split at h
    · rename_i u us h1 h2
      cases h
      simp [wordsV, h1, wordsV_snoc a l h2 hv]
    · cases h
theorem wordsV_none {a : List UInt8} : ∀ {l : List (List UInt8)}, a ∈ l → wordV a = none → wordsV l = none
  | b :: l, ha, hn => by
    unfold wordsV
    split
    · rename_i u us h1 h2
      simp only [List.mem_cons] at ha
      rcases ha with rfl | ha
      · rw [hn] at h1; cases h1
      · rw [wordsV_none ha hn] at h2; cases h2
    · rfl
theorem wordsV_len : ∀ {l : List (List UInt8)} {vs : List Nat}, wordsV l = some vs → vs.length = l.length
  | [], vs, h => by cases h; rfl
  | b :: l, vs, h => by
    unfold wordsV at h
    split at h
    · rename_i u us h1 h2
      cases h
      simp [wordsV_len h2]
    · cases h
def natI (vs : List Nat) : List Int := vs.map fun v : Nat => (v : Int)
theorem natI_snoc (vs : List Nat) (v : Nat) : ints (natI (vs ++ [v])) = ints (natI vs) ++ [.int .i64 (v : Int)] := by simp [natI, ints]; rfl
end Go.Proofs.YtnppmcgmmdcpiaaGreatDoor
