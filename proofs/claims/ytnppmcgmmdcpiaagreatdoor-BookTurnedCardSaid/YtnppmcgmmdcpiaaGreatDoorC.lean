import Derived.Test.YtnppmcgmmdcpiaaGreatDoorT
import Derived.Test.YtnppmcgmmdcpiaaGreatDoorEngI
namespace Go.Proofs.YtnppmcgmmdcpiaaGreatDoor
open Go.Eng
set_option maxRecDepth 20000
/-! ### what common functions do -/
set_option maxRecDepth 20000 in
theorem grows_ints : Grows Tryz.prog 22 3 1 := ⟨rfl, rfl, by decide, by decide, ⟨_, rfl, rfl, ⟨rfl, trivial⟩⟩⟩
theorem within_c {n lo hi : Int} {h : H} {post : Value → H → Prop} (hk : post (.bool (decide (lo ≤ n ∧ n ≤ hi))) h) : SemCall Tryz.prog 95 (List.toArray [.int .i64 n, .int .i64 lo, .int .i64 hi]) h post := by
  refine f95_call n lo hi h post ?_
  refine ⟨fun b h' => h' = h ∧ b = decide (lo ≤ n ∧ n ≤ hi), VIf_dec (fun hx => gi ⟨rfl, ?_⟩) (fun hx => gi ⟨rfl, ?_⟩), ?_⟩
  · have : lo ≤ n := hx; simp [this]
  · have : ¬ lo ≤ n := hx; simp [this]
  · rintro _ b h' ⟨rfl, rfl⟩; exact ret hk
theorem index_c {s : SV} {xs : List Int} {v : Int} {h : H} {post : Value → H → Prop} (hr : RdSl h s (ints xs)) (hl : s.len ≤ 1000000000) (hk : post (.int .i64 (goIdx xs v)) h) : SemCall Tryz.prog 112 (List.toArray [.slice s.a s.len s.cap, .int .i64 v]) h post := by
  refine f112_call s v h post ?_
  have hlen := hr.len
  rw [ints_length] at hlen
  refine ⟨fun h' => h' = h ∧ v ∉ xs, ⟨fun n i h' => h' = h ∧ ∃ k : Nat, i = k ∧ k ≤ xs.length ∧ n = xs.length - k ∧ v ∉ xs.take k, ⟨_, gi ⟨rfl, 0, rfl, Nat.zero_le _, rfl, by simp⟩⟩, ?_⟩, ?_⟩
  · rintro n _ i h' ⟨rfl, k, rfl, hk1, rfl, hk2⟩
    refine VIf_dec (fun hx => ?_) (fun hx => gi ⟨rfl, ?_⟩)
    · have hx : k < xs.length := by omega
      obtain ⟨b, hb⟩ := hr.addr (by rw [ints_length]; omega)
      refine ⟨b, hb, by omega, by omega, xs[k], ?_, ?_⟩
      · have := hr.get hb (i := k) (v := .int .i64 xs[k]) (by rw [ints_get, List.getElem?_eq_getElem hx]; rfl)
        simpa [Addr.add_zero'] using this
      · refine VIf_of ?_
        split
        · rename_i he
          have he : v = xs[k] := by simpa using he
          refine ret ?_
          rw [← goIdx_at hx hk2 he]; exact hk
        · rename_i he
          have he : ¬ v = xs[k] := by simpa using he
          refine ⟨⟨by omega, by omega⟩, _, ?_, gi ⟨rfl, k + 1, rfl, by omega, rfl, ?_⟩⟩
          · omega
          · rw [List.take_add_one, List.getElem?_eq_getElem hx, List.mem_append]
            rintro (hc | hc)
            · exact hk2 hc
            · simp at hc; exact he hc
    · have : k = xs.length := by omega
      subst this
      simpa using hk2
  · rintro _ h' ⟨rfl, hn⟩
    refine ret ?_
    rw [← goIdx_none hn]; exact hk
theorem contains_c {s : SV} {xs : List Int} {v : Int} {h : H} {post : Value → H → Prop} (hr : RdSl h s (ints xs)) (hl : s.len ≤ 1000000000) (hk : post (.bool (decide (v ∈ xs))) h) : SemCall Tryz.prog 96 (List.toArray [.slice s.a s.len s.cap, .int .i64 v]) h post := by
  refine f96_call s v h post (index_c hr hl ⟨_, rfl, ret ?_⟩)
  rw [goIdx_mem]; exact hk
theorem same_ints_c {s s2 : SV} {xs ys : List Int} {h : H} {post : Value → H → Prop} (hr : RdSl h s (ints xs)) (hr2 : RdSl h s2 (ints ys)) (hl : s.len ≤ 1000000000) (hk : post (.bool (decide (xs = ys))) h) : SemCall Tryz.prog 35 (List.toArray [.slice s.a s.len s.cap, .slice s2.a s2.len s2.cap]) h post := by
  refine f35_call s s2 h post ?_
  have hlen := hr.len
  have hlen2 := hr2.len
  rw [ints_length] at hlen hlen2
  refine VIf_of ?_
  split
  · rename_i he
    have he : ¬ s.len = s2.len := by intro hc; rw [hc] at he; simp at he
    refine ret ?_
    rw [show decide (xs = ys) = false from decide_eq_false (fun hc => he (by rw [hlen, hlen2, hc]))] at hk; exact hk
  · rename_i he
    have he : xs.length = ys.length := by simp at he; omega
    refine ⟨fun h' => h' = h ∧ xs = ys, ⟨fun n i h' => h' = h ∧ ∃ k : Nat, i = k ∧ k ≤ xs.length ∧ n = xs.length - k ∧ xs.take k = ys.take k, ⟨_, gi ⟨rfl, 0, rfl, Nat.zero_le _, rfl, by simp⟩⟩, ?_⟩, ?_⟩
    · rintro n _ i h' ⟨rfl, k, rfl, hk1, rfl, hk2⟩
      refine VIf_dec (fun hx => ?_) (fun hx => gi ⟨rfl, ?_⟩)
      · have hx : k < xs.length := by omega
        have hy : k < ys.length := by omega
        obtain ⟨b, hb⟩ := hr.addr (by rw [ints_length]; omega)
        obtain ⟨b2, hb2⟩ := hr2.addr (by rw [ints_length]; omega)
        refine ⟨b, hb, by omega, by omega, xs[k], ?_, b2, hb2, by omega, by omega, ys[k], ?_, ?_⟩
        · have := hr.get hb (i := k) (v := .int .i64 xs[k]) (by rw [ints_get, List.getElem?_eq_getElem hx]; rfl)
          simpa [Addr.add_zero'] using this
        · have := hr2.get hb2 (i := k) (v := .int .i64 ys[k]) (by rw [ints_get, List.getElem?_eq_getElem hy]; rfl)
          simpa [Addr.add_zero'] using this
        · refine VIf_of ?_
          split
          · rename_i hne
            have hne : ¬ xs[k] = ys[k] := by simpa using hne
            refine ret ?_
            rw [show decide (xs = ys) = false from decide_eq_false (fun hc => hne (by subst hc; rfl))] at hk; exact hk
          · rename_i hne
            have hne : xs[k] = ys[k] := by simpa using hne
            refine ⟨⟨by omega, by omega⟩, _, ?_, gi ⟨rfl, k + 1, rfl, by omega, rfl, ?_⟩⟩
            · omega
            · rw [List.take_add_one, List.take_add_one, List.getElem?_eq_getElem hx, List.getElem?_eq_getElem hy, hk2, hne]
      · have h1 : k = xs.length := by omega
        have h2 : k = ys.length := by omega
        rw [List.take_of_length_le (by omega), List.take_of_length_le (by omega)] at hk2
        exact hk2
    · rintro _ h' ⟨rfl, rfl⟩
      refine ret ?_
      simpa using hk
theorem clone_c {s : SV} {xs : List Int} {own : List Ent} {ro : Addr → Option Value} {post : Value → H → Prop} (hr : RdSl ⟨own, ro⟩ s (ints xs)) (hl : s.len ≤ 1000000000)
    (hk : ∀ (s' : SV) (e' : Ent), OwnsSl 1 s' e' (ints xs) → post (.slice s'.a s'.len s'.cap) ⟨own ++ [e'], ro⟩) : SemCall Tryz.prog 63 (List.toArray [.slice s.a s.len s.cap]) ⟨own, ro⟩ post := by
  refine f63_call s ⟨own, ro⟩ post (VIf_of ?_)
  split
  · rename_i hn
    have hn : s.a = none := by simpa using hn
    have : ints xs = [] := List.eq_nil_of_length_eq_zero (by rw [← hr.1]; exact hr.2.1 hn)
    refine ⟨⟨own ++ [⟨none, [], 0⟩], ro⟩, by simpa using Gh.phantom own [] ro 0, ?_⟩
    exact hk ⟨none, 0, 0⟩ _ (by rw [this]; exact OwnsSl.nil 1)
  · exact clone_vc grows_ints hr.rows (allOne_ints xs) hl (fun s' e' o1 _ _ => ret (hk s' e' o1))
end Go.Proofs.YtnppmcgmmdcpiaaGreatDoor
