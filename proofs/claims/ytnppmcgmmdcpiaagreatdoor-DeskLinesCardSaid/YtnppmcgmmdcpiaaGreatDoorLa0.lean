
import Derived.Test.YtnppmcgmmdcpiaaGreatDoorDt
import Derived.Test.YtnppmcgmmdcpiaaGreatDoorT9
namespace Go.Proofs.YtnppmcgmmdcpiaaGreatDoor
open Go.Eng
set_option maxRecDepth 20000
theorem dec_small {n : Nat} (h : n < 10) : Lib.decDigits n = [UInt8.ofNat (48 + n)] := by
  have : ∀ n, n < 10 → Lib.decDigits n = [UInt8.ofNat (48 + n)] := by
    intro n hn
    unfold Lib.decDigits
    rw [dif_pos hn]
  exact this n h
theorem cut_one {w : List UInt8} (h : 32 ∉ w) : cutB 32 w = [w] := cutB_none h
theorem ans_word {x : Bo} {w : List UInt8} (h : 32 ∉ w) : dans x w = ddo x w [] := by
  unfold dans
  rw [cut_one h]
  rfl
theorem ans_free {x : Bo} : dans x sFree = (x, listB sFree x.b.free) := by rw [ans_word (by decide), ddo_free rfl rfl]
theorem ans_row {x : Bo} : dans x sRow = (x, listB sRow (natI ((brow x.b).getD []))) := by rw [ans_word (by decide), ddo_row rfl rfl]
theorem ans_none {x : Bo} {w : List UInt8} (h : 32 ∉ w) (h1 : w ≠ sFree) (h2 : w ≠ sRow) : dans x w = (x, sBad) := by
  rw [ans_word h, ddo_bad (fun h => by simp at h) (fun h => h1 h.1) (fun h => h2 h.1) (fun h => by simp at h)]
theorem free_0 : listB sFree x0.b.free = [102, 114, 101, 101, 32, 54, 32, 52] := by
  show listB sFree [6, 4] = _
  simp only [listB, List.flatMap_cons, List.flatMap_nil]
  rw [show (6 : Int).toNat = 6 from rfl, show (4 : Int).toNat = 4 from rfl, dec_small (by decide), dec_small (by decide)]
  rfl
theorem row_0 : listB sRow (natI ((brow x0.b).getD [])) = [114, 111, 119, 32, 48, 32, 49, 32, 50] := by
  rw [show brow x0.b = some [0, 1, 2] from bk0_row]
  simp only [listB, natI, Option.getD_some, List.map_cons, List.map_nil, List.flatMap_cons, List.flatMap_nil]
  rw [show ((0 : Nat) : Int).toNat = 0 from rfl, show ((1 : Nat) : Int).toNat = 1 from rfl, show ((2 : Nat) : Int).toNat = 2 from rfl, dec_small (by decide), dec_small (by decide), dec_small (by decide)]
  rfl
theorem fact_free : drun sFree = [102, 114, 101, 101, 32, 54, 32, 52, 10] := by
  unfold drun
  rw [if_neg (by decide), (dsess_last (by decide) (by decide)).1, ans_free, free_0]
  rfl
theorem fact_row : drun [114, 111, 119, 10, 10, 98] = [114, 111, 119, 32, 48, 32, 49, 32, 50, 10, 98, 97, 100, 10, 98, 97, 100, 10] := by
  unfold drun
  rw [if_neg (by decide), show ([114, 111, 119, 10, 10, 98] : List UInt8) = sRow ++ 10 :: ([] ++ 10 :: [98]) from rfl, (dsess_line (by decide)).1, ans_row, row_0, (dsess_line (by simp)).1, ans_none (by simp) (by decide) (by decide), (dsess_last (by decide) (by decide)).1, ans_none (by decide) (by decide) (by decide)]
  rfl
/-- a text that ends a line, or is empty -/
def Ends (t : List UInt8) : Prop := t ≠ [] → t.getLast? = some 10
theorem Ends.whole {t : List UInt8} (h : Ends t) : Whole t := whole_of t.length t (Nat.le_refl _) h
theorem dsess_ends : ∀ (n : Nat) (x : Bo) (t : List UInt8), t.length ≤ n → Ends (dsess x t)
  | 0, x, t, h => by
    have : t = [] := List.eq_nil_of_length_eq_zero (by omega)
    rw [this, dsess_nil]; intro h; exact absurd rfl h
  | n + 1, x, t, h => by
    rcases text_cases t with rfl | ⟨h0, hn⟩ | ⟨s, l, hs, rfl⟩
    · rw [dsess_nil]; intro h; exact absurd rfl h
    · rw [(dsess_last h0 hn).1]; intro _; simp
    · simp only [List.length_append, List.length_cons] at h
      have := dsess_ends n (dans x s).1 l (by omega)
      rw [(dsess_line hs).1]
      intro _
      rw [List.getLast?_append, List.getLast?_cons]
      cases hg : (dsess (dans x s).1 l).getLast? with
      | none => simp
      | some c =>
        have h0 : dsess (dans x s).1 l ≠ [] := by intro hc; rw [hc] at hg; cases hg
        have := this h0
        rw [hg] at this
        simpa using this
theorem drun_small {t : List UInt8} (h : t.length ≤ 3000) : drun t = dsess x0 t := by unfold drun; rw [if_neg (by omega)]
theorem bs_lit {l m : List UInt8} (h : l = m) : (!(ByteArray.toList (bs l) == ByteArray.toList (bs m))) = false := by rw [bs_beq, decide_eq_true h]; rfl
/-- the last line of a text -/
theorem lastline_x {p q : List UInt8} (hp : Ends p) (hq : 10 ∉ q) (hl : (p ++ (q ++ [10])).length ≤ 1000000) {fid : FuncId} {h : H} {post : Value → H → Prop} (hk : post (.string (bs (q ++ [10]))) h)
    (hF : ∀ post : Value → H → Prop, (In64 (((ByteArray.size (bs (p ++ (q ++ [10]))) : Nat) : Int) - (1 : Int)) ∧ ∃ R1 : Int → H → Prop, (∃ I2 : Nat → Int → H → Prop, (∃ n3, (∃ h5, Gh h h5 ∧ I2 n3 (((ByteArray.size (bs (p ++ (q ++ [10]))) : Nat) : Int) - (1 : Int)) h5)) ∧
        ∀ (n3 : Nat) (_ : F) (x6 : Int) (h7 : H), I2 n3 x6 h7 → ∃ R8 : Bool → H → Prop, (VIf (decide (x6 > (0 : Int))) (In64 (x6 - (1 : Int)) ∧ (0 : Int) ≤ (x6 - (1 : Int)) ∧ (x6 - (1 : Int)) < ((ByteArray.size (bs (p ++ (q ++ [10]))) : Nat) : Int) ∧
          (∃ h9, Gh h7 h9 ∧ R8 (((((ByteArray.data (bs (p ++ (q ++ [10])))).toList.getD ((x6 - (1 : Int))).toNat 0).toNat : Nat) : Int) != (10 : Int)) h9)) (∃ h10, Gh h7 h10 ∧ R8 false h10)) ∧
          ∀ (_ : F) (x11 : Bool) (h12 : H), R8 x11 h12 → VIf x11 (In64 (x6 - (1 : Int)) ∧ ∃ m4, m4 < n3 ∧ (∃ h13, Gh h12 h13 ∧ I2 m4 (x6 - (1 : Int)) h13)) (∃ h14, Gh h12 h14 ∧ R1 x6 h14)) ∧
        ∀ (_ : F) (x15 : Int) (h16 : H), R1 x15 h16 → VIf (decide (x15 < (0 : Int))) (VRet h16 (.string (ByteArray.mk (List.toArray []))) post) ((0 : Int) ≤ x15 ∧ x15 ≤ ((ByteArray.size (bs (p ++ (q ++ [10]))) : Nat) : Int) ∧ VRet h16 (.string (ByteArray.extract (bs (p ++ (q ++ [10]))) (x15).toNat (ByteArray.size (bs (p ++ (q ++ [10])))))) post)) →
      SemCall Tryz.prog fid (List.toArray [.string (bs (p ++ (q ++ [10])))]) h post) :
    SemCall Tryz.prog fid (List.toArray [.string (bs (p ++ (q ++ [10])))]) h post := by
  refine hF post ?_
  have hlen : (p ++ (q ++ [10])).length = p.length + q.length + 1 := by simp; omega
  rw [bs_size, hlen]
  rw [hlen] at hl
  refine ⟨⟨by omega, by omega⟩, fun i h' => i = (p.length : Int) ∧ h' = h, ⟨fun n i h' => ∃ j : Nat, i = (j : Int) ∧ p.length ≤ j ∧ j ≤ p.length + q.length ∧ n = j ∧ h' = h, ⟨_, gi ⟨p.length + q.length, by omega, by omega, Nat.le_refl _, rfl, rfl⟩⟩, ?_⟩, ?_⟩
  · rintro j _ i h7 ⟨_, rfl, hj1, hj2, rfl, rfl⟩
    refine ⟨fun c h' => c = decide (p.length < j) ∧ h' = h7, ?_, ?_⟩
    · refine VIf_dec (fun hi => ⟨⟨by omega, by omega⟩, by omega, by omega, gi ⟨?_, rfl⟩⟩) (fun hi => gi ⟨?_, rfl⟩)
      · obtain ⟨j, rfl⟩ : ∃ j', j = j' + 1 := ⟨j - 1, by omega⟩
        rw [show ((j + 1 : Nat) : Int) - 1 = (j : Int) by omega, byte_at _ j (by rw [hlen]; omega)]
        by_cases hc : p.length < j + 1
        · rw [decide_eq_true hc, bne_iff_ne]
          intro he
          have he : (p ++ (q ++ [10]))[j]'(by rw [hlen]; omega) = 10 := byte_eq.1 he
          rw [List.getElem_append_right (by omega)] at he
          rw [List.getElem_append_left (by omega)] at he
          exact hq (he ▸ List.getElem_mem _)
        · rw [decide_eq_false hc]
          have hj : j < p.length := by omega
          have h1 := hp (by intro hc; rw [hc] at hj; simp at hj)
          have h2 : (p ++ (q ++ [10]))[j]'(by rw [hlen]; omega) = 10 := by
            rw [List.getElem_append_left hj]
            rw [List.getLast?_eq_getElem?] at h1
            have : p.length - 1 = j := by omega
            rw [this, List.getElem?_eq_getElem hj] at h1
            exact Option.some.inj h1
          rw [h2]; rfl
      · rw [decide_eq_false (by omega)]
    · rintro _ c h8 ⟨rfl, rfl⟩
      refine VIf_dec (fun hc => ⟨⟨by omega, by omega⟩, j - 1, by omega, gi ⟨j - 1, by omega, by omega, by omega, rfl, rfl⟩⟩) (fun hc => gi ⟨by omega, rfl⟩)
  · rintro _ i h' ⟨rfl, rfl⟩
    refine VIf_dec (fun hc => by omega) (fun hc => ⟨by omega, by omega, ret ?_⟩)
    rw [Int.toNat_natCast, bs_ex, ← hlen, List.drop_left, List.take_of_length_le (by simp)]
    exact hk
theorem lastline_c {p q : List UInt8} (hp : Ends p) (hq : 10 ∉ q) (hl : (p ++ (q ++ [10])).length ≤ 1000000) {h : H} {post : Value → H → Prop} (hk : post (.string (bs (q ++ [10]))) h) : SemCall Tryz.prog 22 (List.toArray [.string (bs (p ++ (q ++ [10])))]) h post :=
  lastline_x hp hq hl hk (fun post hx => f22_call _ _ post hx)
theorem lastline_t {p q : List UInt8} (hp : Ends p) (hq : 10 ∉ q) (hl : (p ++ (q ++ [10])).length ≤ 1000000) {h : H} {post : Value → H → Prop} (hk : post (.string (bs (q ++ [10]))) h) : SemCall Tryz.prog 23 (List.toArray [.string (bs (p ++ (q ++ [10])))]) h post :=
  lastline_x hp hq hl hk (fun post hx => f23_call _ _ post hx)
end Go.Proofs.YtnppmcgmmdcpiaaGreatDoor
