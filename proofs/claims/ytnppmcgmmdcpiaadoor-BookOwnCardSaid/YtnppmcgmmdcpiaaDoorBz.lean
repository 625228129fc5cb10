import Derived.Lib.ItoaLen
import Derived.Test.YtnppmcgmmdcpiaaDoorBy
namespace Go.Proofs.YtnppmcgmmdcpiaaDoor
open Go.Eng
set_option maxRecDepth 20000
/-! ### bytes -/
def bs (l : List UInt8) : ByteArray := ⟨l.toArray⟩
@[simp] theorem bs_size (l : List UInt8) : (bs l).size = l.length := by simp [bs, ByteArray.size]
@[simp] theorem bs_data (l : List UInt8) : (bs l).data.toList = l := by simp [bs]
@[simp] theorem bs_app (l m : List UInt8) : bs l ++ bs m = bs (l ++ m) := by
  apply ByteArray.ext
  rw [ByteArray.data_append]
  simp [bs]
theorem bs_of (s : ByteArray) : s = bs s.data.toList := by cases s; simp [bs]
theorem bs_inj {l m : List UInt8} : bs l = bs m ↔ l = m := ⟨fun h => by have := congrArg (fun s => s.data.toList) h; simpa using this, fun h => by rw [h]⟩
theorem itoa_nn {n : Int} (h : 0 ≤ n) : Lib.itoa n = Lib.decDigits n.toNat := by unfold Lib.itoa; rw [if_neg (by omega)]
theorem dec_len {n : Nat} (h : n ≤ 1000000) : (Lib.decDigits n).length ≤ 21 := by
  have := Lib.itoa_length_le (n : Int) (by omega) (by omega)
  rwa [itoa_nn (by omega), Int.toNat_natCast] at this

/-- a line, and how it is put down -/
def lineB (w : UInt8) (t : Int) (want : List Int) : List UInt8 := w :: 32 :: (Lib.decDigits t.toNat ++ want.flatMap fun n => 32 :: Lib.decDigits n.toNat)
def lineF (l : List UInt8) : List UInt8 := l ++ 32 :: (Lib.decDigits (sumB l) ++ [10])
theorem lineF_ne (l : List UInt8) : lineF l ≠ [] := by simp [lineF]
theorem sumB_lt (l : List UInt8) : sumB l < 9973 := Nat.mod_lt _ (by omega)
theorem flat_len : ∀ {want : List Int}, (∀ x ∈ want, 0 ≤ x ∧ x ≤ 1000) → (want.flatMap fun n => 32 :: Lib.decDigits n.toNat).length ≤ 22 * want.length
  | [], _ => by simp
  | n :: want, h => by
    have h1 := flat_len (want := want) (fun x hx => h x (by simp [hx]))
    have h2 := h n (by simp)
    have h3 := dec_len (n := n.toNat) (by omega)
    simp only [List.flatMap_cons, List.length_append, List.length_cons]
    omega
theorem lineB_len {w : UInt8} {t : Int} {want : List Int} (h0 : 0 ≤ t ∧ t ≤ 1000) (h : ∀ x ∈ want, 0 ≤ x ∧ x ≤ 1000) (h3 : want.length ≤ 3) : (lineB w t want).length ≤ 89 := by
  have h1 := flat_len h
  have h2 := dec_len (n := t.toNat) (by omega)
  simp only [lineB, List.length_cons, List.length_append]
  omega
theorem lineF_len {l : List UInt8} (h : l.length ≤ 89) : (lineF l).length ≤ 112 := by
  have h2 := dec_len (n := sumB l) (by have := sumB_lt l; omega)
  simp only [lineF, List.length_cons, List.length_append, List.length_nil]
  omega

theorem digit_at {n : Nat} (h : n < 10) : ByteArray.extract (ByteArray.mk (List.toArray [(48 : UInt8), (49 : UInt8), (50 : UInt8), (51 : UInt8), (52 : UInt8), (53 : UInt8), (54 : UInt8), (55 : UInt8), (56 : UInt8), (57 : UInt8)])) n (n + 1) = bs (Lib.decDigits n) := by
  have e : Lib.decDigits n = [UInt8.ofNat (48 + n)] := by rw [Lib.decDigits, dif_pos h]
  rw [e]
  rcases n with _ | _ | _ | _ | _ | _ | _ | _ | _ | _ | n
  all_goals first | rfl | omega
theorem digits_n : ∀ (n : Nat), n ≤ 1000000 → ∀ {h : H} {post : Value → H → Prop}, post (.string (bs (Lib.decDigits n))) h → SemCall Tryd.prog 25 (List.toArray [.int .i64 (n : Int)]) h post := by
  intro n
  induction n using Nat.strongRecOn with
  | _ n ih =>
    intro hn h post hk
    refine f25_call _ _ post (VIf_dec (fun h10 => ?_) (fun h10 => ?_))
    · have hn10 : n < 10 := by omega
      refine ⟨⟨by omega, by omega⟩, by omega, by simp [ByteArray.size]; omega, by omega, by omega, ret ?_⟩
      rw [show ((n : Int)).toNat = n from Int.toNat_natCast n, show ((n : Int) + 1).toNat = n + 1 by omega, digit_at hn10]
      exact hk
    · have hn10 : ¬ n < 10 := by omega
      have e1 : Int.tdiv (n : Int) 10 = ((n / 10 : Nat) : Int) := rfl
      have e2 : Int.tmod (n : Int) 10 = ((n % 10 : Nat) : Int) := rfl
      have l1 := dec_len (n := n / 10) (by omega)
      have l2 := dec_len (n := n % 10) (by omega)
      refine ⟨by decide, by rw [e1]; exact ⟨by omega, by omega⟩, ?_⟩
      rw [e1, e2]
      refine ih (n / 10) (by omega) (by omega) ⟨_, rfl, by decide, ih (n % 10) (by omega) (by omega) ⟨_, rfl, ?_, ret ?_⟩⟩
      · simp only [bs_size]; omega
      · rw [bs_app]
        have e3 : Lib.decDigits (n % 10) = [UInt8.ofNat (48 + n % 10)] := by rw [Lib.decDigits, dif_pos (by omega)]
        rw [e3]
        rw [Lib.decDigits, dif_neg hn10] at hk
        exact hk
theorem digits_c {n : Int} (h0 : 0 ≤ n) (h1 : n ≤ 1000000) {h : H} {post : Value → H → Prop} (hk : post (.string (bs (Lib.decDigits n.toNat))) h) : SemCall Tryd.prog 25 (List.toArray [.int .i64 n]) h post := by
  have := digits_n n.toNat (by omega) hk
  rwa [show ((n.toNat : Nat) : Int) = n by omega] at this

theorem sumT_mono {l : List UInt8} : ∀ {k m : Nat}, k ≤ m → sumT l k ≤ sumT l m
  | k, 0, h => by have : k = 0 := by omega
                  subst this; exact Nat.le_refl _
  | k, m + 1, h => by
    by_cases e : k = m + 1
    · subst e; exact Nat.le_refl _
    · have := sumT_mono (l := l) (k := k) (m := m) (by omega)
      rw [sumT]; omega
theorem dsum_c {l : List UInt8} (hl : l.length ≤ 1000000) {h : H} {post : Value → H → Prop} (hk : post (.int .i64 (sumB l)) h) : SemCall Tryd.prog 26 (List.toArray [.string (bs l)]) h post := by
  have hT := sumT_le l l.length hl
  have hT' : l.length * 255000255 ≤ 1000000 * 255000255 := Nat.mul_le_mul_right _ hl
  refine f26_call _ _ post ⟨by rw [bs_size]; exact ⟨by omega, by omega⟩, fun n h' => n = ((sumT l l.length : Nat) : Int) ∧ h' = h, ⟨fun m n i h' => h' = h ∧ m ≤ l.length ∧ i = (m : Int) - 1 ∧ n = ((sumT l l.length - sumT l m : Nat) : Int), ⟨l.length, gi ⟨rfl, Nat.le_refl _, by rw [bs_size], by rw [Nat.sub_self]; rfl⟩⟩, ?_⟩, ?_⟩
  · rintro m _ n i h' ⟨rfl, hm, rfl, rfl⟩
    have hTm := sumT_mono (l := l) hm
    refine VIf_dec (fun hi => ?_) (fun hi => gi ⟨?_, rfl⟩)
    · obtain ⟨k, rfl⟩ : ∃ k, m = k + 1 := ⟨m - 1, by omega⟩
      have e1 : (((k + 1 : Nat) : Int) - 1) = (k : Int) := by omega
      rw [e1, Int.toNat_natCast, bs_data, bs_size]
      have hb : (l.getD k 0).toNat ≤ 255 := by have := (l.getD k 0).toNat_lt; omega
      have hst : sumT l (k + 1) = sumT l k + (k + 1) * (l.getD k 0).toNat := rfl
      have e2 : ((k : Int) + 1) * ((l.getD k 0).toNat : Int) = (((k + 1) * (l.getD k 0).toNat : Nat) : Int) := by rw [Int.natCast_mul]; rfl
      rw [e2]
      generalize (k + 1) * (l.getD k 0).toNat = q at *
      generalize (l.getD k 0).toNat = c at *
      refine ⟨⟨by omega, by omega⟩, by omega, by omega, ⟨by omega, by omega⟩, ⟨by omega, by omega⟩, ⟨by omega, by omega⟩, ⟨by omega, by omega⟩, k, by omega, gi ⟨rfl, by omega, rfl, by omega⟩⟩
    · have : m = 0 := by omega
      subst this
      simp [sumT]
  · rintro _ n h' ⟨rfl, rfl⟩
    refine ⟨by decide, ret ?_⟩
    exact hk
end Go.Proofs.YtnppmcgmmdcpiaaDoor
