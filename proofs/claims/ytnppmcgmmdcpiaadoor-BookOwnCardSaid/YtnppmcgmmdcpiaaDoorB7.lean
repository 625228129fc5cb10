import Derived.Test.YtnppmcgmmdcpiaaDoorB6
namespace Go.Proofs.YtnppmcgmmdcpiaaDoor
open Go.Eng
set_option maxRecDepth 20000
/-! ### the bank: what is the same, and facts -/
theorem same_rows_c {s s2 : SV} {rc rc2 : List (SV × List Int)} {h : H} {post : Value → H → Prop} (hr : RdRowsOf h s rc) (hr2 : RdRowsOf h s2 rc2) (hb : ∀ l ∈ rc.map Prod.snd, l.length ≤ 1000000) (hn : s.len ≤ 1000000)
    (h1 : rc.map Prod.snd = rc2.map Prod.snd → post (.bool true) h) (h2 : rc.map Prod.snd ≠ rc2.map Prod.snd → post (.bool false) h) : SemCall Tryd.prog 19 (List.toArray [.slice s.a s.len s.cap, .slice s2.a s2.len s2.cap]) h post := by
  refine f19_call s s2 h post ?_
  have e1 := rowsof_len hr rfl
  have e2 := rowsof_len hr2 rfl
  refine VIf_ne (fun hc => ret (h2 (fun he => hc (by rw [e1, e2, he])))) (fun hc => ?_)
  have hl : (rc.map Prod.snd).length = (rc2.map Prod.snd).length := by omega
  refine ⟨fun h' => h' = h ∧ rc.map Prod.snd = rc2.map Prod.snd, ⟨fun n i h' => ∃ k : Nat, i = (k : Int) ∧ k ≤ s.len ∧ n = s.len - k ∧ h' = h ∧ (rc.map Prod.snd).take k = (rc2.map Prod.snd).take k, ⟨_, gi ⟨0, rfl, Nat.zero_le _, rfl, rfl, by simp⟩⟩, ?_⟩, ?_⟩
  · rintro n _ i _ ⟨k, rfl, hk, rfl, rfl, ht⟩
    refine VIf_dec (fun hi => ?_) (fun hi => gi ⟨rfl, ?_⟩)
    rotate_left
    · rwa [List.take_of_length_le (by omega), List.take_of_length_le (by omega)] at ht
    have k1 : k < (rc.map Prod.snd).length := by omega
    have k2 : k < (rc2.map Prod.snd).length := by omega
    refine rowsof_at hr rfl (by omega) (by omega) fun x hx hxl => rowsof_at hr2 rfl (by omega) (by omega) fun y hy hyl => ?_
    rw [Int.toNat_natCast, List.getElem?_eq_getElem k1] at hx hxl
    rw [Int.toNat_natCast, List.getElem?_eq_getElem k2] at hy hyl
    simp only [Option.getD_some] at hx hxl hy hyl
    have hxb := hb _ (List.getElem_mem k1)
    refine same_ints_c hx hy (by omega) ⟨_, rfl, VIf_not (fun hne => ret (h2 (fun he => hne ?_))) (fun he => ⟨⟨by omega, by omega⟩, s.len - (k + 1), by omega, gi ⟨k + 1, by omega, by omega, rfl, rfl, ?_⟩⟩)⟩
    · have := congrArg (fun l : List (List Int) => l[k]?) he
      rw [List.getElem?_eq_getElem k1, List.getElem?_eq_getElem k2] at this
      exact Option.some.inj this
    · rw [List.take_add_one, List.take_add_one, ht, List.getElem?_eq_getElem k1, List.getElem?_eq_getElem k2, he]
  · rintro _ _ ⟨rfl, h⟩
    exact ret (h1 h)
structure Sml (b : Bk) : Prop where
  f : b.free.length ≤ 1000
  c : b.claim.length ≤ 1000 ∧ ∀ l ∈ b.claim, l.length ≤ 1000
  h : b.has.length ≤ 1000 ∧ ∀ l ∈ b.has, l.length ≤ 1000
theorem BOk.sml {b : Bk} (h : BOk b) : Sml b := by
  have := h.n3; have := h.m5; have hl := h.hl
  refine ⟨by omega, ⟨by omega, fun l hl => ?_⟩, ⟨by omega, fun l hl2 => ?_⟩⟩
  · obtain ⟨t, ht, rfl⟩ := List.mem_iff_getElem.1 hl
    have := (h.cn t ht).1
    rw [List.getElem?_eq_getElem ht] at this
    simp only [Option.getD_some] at this
    omega
  · obtain ⟨t, ht, rfl⟩ := List.mem_iff_getElem.1 hl2
    have := (h.cn t (by omega)).2
    rw [List.getElem?_eq_getElem ht] at this
    simp only [Option.getD_some] at this
    omega
theorem same_banks_c {b b2 : Bk} {sf sc sh sf2 sc2 sh2 : SV} {own : List Ent} {ro : Addr → Option Value} {post : Value → H → Prop} (hb : BkRd ⟨own, ro⟩ sf sc sh b) (hb2 : BkRd ⟨own, ro⟩ sf2 sc2 sh2 b2) (hs : Sml b)
    (h1 : b = b2 → post (.bool true) ⟨own, ro⟩) (h2 : b ≠ b2 → post (.bool false) ⟨own, ro⟩) : SemCall Tryd.prog 8 (List.toArray [bkV sf sc sh, bkV sf2 sc2 sh2]) ⟨own, ro⟩ post := by
  refine f8_call sf sc sh sf2 sc2 sh2 _ post ?_
  intro r1 _ r3 _
  simp only [add_mk', Nat.zero_add, Nat.add_zero]
  have hE1 : bkE r1 sf sc sh ∈ own ++ [bkE r1 sf sc sh] ++ [bkE r3 sf2 sc2 sh2] := by simp
  have hE3 : bkE r3 sf2 sc2 sh2 ∈ own ++ [bkE r1 sf sc sh] ++ [bkE r3 sf2 sc2 sh2] := by simp
  have hu : BkRd ⟨own ++ [bkE r1 sf sc sh] ++ [bkE r3 sf2 sc2 sh2], ro⟩ sf sc sh b := hb.mono (fun e he => by simp [he]) (fun _ _ h => h)
  have hu2 : BkRd ⟨own ++ [bkE r1 sf sc sh] ++ [bkE r3 sf2 sc2 sh2], ro⟩ sf2 sc2 sh2 b2 := hb2.mono (fun e he => by simp [he]) (fun _ _ h => h)
  obtain ⟨f, ⟨rc, c1, c2⟩, ⟨rh, g1, g3⟩⟩ := hu
  obtain ⟨f', ⟨rc', c1', c2'⟩, ⟨rh', g1', g3'⟩⟩ := hu2
  have fl := f.len
  rw [ints_length] at fl
  have cl := rowsof_len c1 c2
  have hl := rowsof_len g1 g3
  have := hs.f; have := hs.c.1; have := hs.h.1
  obtain ⟨bf, bc, bh⟩ := b
  obtain ⟨bf', bc', bh'⟩ := b2
  dsimp only at *
  open Classical in
  refine join_b (h := ⟨own ++ [bkE r1 sf sc sh] ++ [bkE r3 sf2 sc2 sh2], ro⟩) (decide ((⟨bf, bc, bh⟩ : Bk) = ⟨bf', bc', bh'⟩)) ⟨sf, bkE_0 hE1, sf2, bkE_0 hE3, same_ints_c f f' (by omega) ⟨_, rfl, VIf_dec (fun e1 => ?_) (fun e1 => gi ⟨rfl, ?_⟩)⟩⟩ ?_
  · refine ⟨sc, bkE_1 hE1, sc2, bkE_1 hE3, same_rows_c c1 c1' (by rw [c2]; exact fun l h => by have := hs.c.2 l h; omega) (by omega) (fun e2 => ⟨_, rfl, VIf_b (fun _ => ?_) (nomatch ·)⟩) (fun e2 => ⟨_, rfl, VIf_b (nomatch ·) (fun _ => gi ⟨rfl, ?_⟩)⟩)⟩
    · refine ⟨sh, bkE_2 hE1, sh2, bkE_2 hE3, same_rows_c g1 g1' (by rw [g3]; exact fun l h => by have := hs.h.2 l h; omega) (by omega) (fun e3 => ⟨_, rfl, gi ⟨rfl, ?_⟩⟩) (fun e3 => ⟨_, rfl, gi ⟨rfl, ?_⟩⟩)⟩
      · rw [c2, c2'] at e2
        rw [g3, g3'] at e3
        exact (decide_eq_true (by rw [e1, e2, e3])).symm
      · rw [g3, g3'] at e3
        exact (decide_eq_false (fun h => by cases h; exact e3 rfl)).symm
    · rw [c2, c2'] at e2
      exact (decide_eq_false (fun h => by cases h; exact e2 rfl)).symm
  · exact (decide_eq_false (fun h => by cases h; exact e1 rfl)).symm
  · open Classical in
    by_cases h : (⟨bf, bc, bh⟩ : Bk) = ⟨bf', bc', bh'⟩
    · rw [decide_eq_true h]
      exact ⟨⟨own, ro⟩, Gh.drop (by simp), h1 h⟩
    · rw [decide_eq_false h]
      exact ⟨⟨own, ro⟩, Gh.drop (by simp), h2 h⟩
end Go.Proofs.YtnppmcgmmdcpiaaDoor
