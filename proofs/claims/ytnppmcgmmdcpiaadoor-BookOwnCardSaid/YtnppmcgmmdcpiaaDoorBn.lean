import Derived.RegionTactic
import Derived.BigCall
import Derived.WalkKit
import Derived.Test.YtnppmcgmmdcpiaaDoorBf
namespace Go.Proofs.YtnppmcgmmdcpiaaDoor
open Go.Eng
set_option maxRecDepth 20000
/-! ### book.New, walked by the kit: its block's type is known -/
theorem eno_ne {E : TypeId} {k : Int} (h : k ≠ 0) : errV (eno E k) = .iface E (.int .i64 k) := by unfold eno; rw [if_neg h]; rfl
theorem holds_sh {w : World} {own : List Ent} {ro : Addr → Option Value} {r T n : Nat} (hw : Holds w ⟨own, ro⟩) (hs : w.shape? r = some (T, n)) : Holds w ⟨own ++ [shE r T n], ro⟩ ∧ Fr w w ⟨own, ro⟩ ⟨own ++ [shE r T n], ro⟩ := by
  refine ⟨⟨?_, ?_, hw.ro, ?_⟩, rfl, rfl, rfl, Nat.le_refl _, fun _ _ => rfl, fun _ _ _ => rfl, ?_, fun _ _ h => h, fun _ _ h => .inl h⟩
  · have e : (own ++ [shE r T n]).filterMap Ent.id = own.filterMap Ent.id := by
      rw [List.filterMap_append]
      show own.filterMap Ent.id ++ [] = _
      rw [List.append_nil]
    show ((own ++ [shE r T n]).filterMap Ent.id).Nodup
    rw [e]
    exact hw.nd
  · intro e he
    simp only [List.mem_append, List.mem_singleton] at he
    rcases he with he | rfl
    · exact hw.ok e he
    · refine ⟨fun r hr => (by cases hr), fun a bs hf => (by cases hf), fun a hf => ?_⟩
      cases hf
      exact hs
  · intro a v hv e he
    simp only [List.mem_append, List.mem_singleton] at he
    rcases he with he | rfl
    · exact hw.ap a v hv e he
    · exact fun h => nomatch h
  · intro e he k hk
    simp only [List.mem_append, List.mem_singleton] at he
    rcases he with he | rfl
    · exact .inl ⟨e, he, hk⟩
    · cases hk
open Go.RowKit in
set_option maxRecDepth 100000 in
set_option maxHeartbeats 2000000 in
theorem new_c {b : Bk} {sf sc sh : SV} {own : List Ent} {ro : Addr → Option Value} {post : Value → H → Prop} (hb : BkRd ⟨own, ro⟩ sf sc sh b)
    (h0 : bcheck b ≠ 0 → post (.tuple #[.pointer none, errV (eno 60 (bcheck b))]) ⟨own, ro⟩)
    (h1 : BOk b → brow b = none → post (.tuple #[.pointer none, errV (eno 60 7)]) ⟨own, ro⟩)
    (h2 : BOk b → brow b ≠ none → ∀ s ro', (∀ a v, ro a = some v → ro' a = some v) → BOO s ⟨b, [], 0⟩ ro' → post (.tuple #[.pointer (some ⟨s.r, 0, none⟩), .nilIface]) ⟨own ++ boL s, ro'⟩) :
    SemCall Tryd.prog 10 (List.toArray [bkV sf sc sh]) ⟨own, ro⟩ post := by
  intro w hw
  obtain ⟨hw1, hf1⟩ := new_holds hw [.slice sf.a sf.len sf.cap, .slice sc.a sc.len sc.cap, .slice sh.a sh.len sh.cap] #[.slice sf.a sf.len sf.cap, .slice sc.a sc.len sc.cap, .slice sh.a sh.len sh.cap] 25 (bkE w.heap.size sf sc sh) rfl rfl rfl (List.prefix_refl _)
  have S22 := bank_safe_c (b := b) (sf := sf) (sc := sc) (sh := sh) (own := own ++ [bkE w.heap.size sf sc sh]) (ro := ro)
    (post := fun v h => (bcheck b ≠ 0 ∧ v = .tuple #[.bool false, .slice none 0 0, .iface 60 (.int .i64 (bcheck b))] ∧ h = ⟨own ++ [bkE w.heap.size sf sc sh], ro⟩) ∨ (BOk b ∧ brow b = none ∧ v = .tuple #[.bool false, .slice none 0 0, .nilIface] ∧ h = ⟨own ++ [bkE w.heap.size sf sc sh], ro⟩) ∨
      (BOk b ∧ brow b ≠ none ∧ ∃ s' e', v = .tuple #[.bool true, .slice s'.a s'.len s'.cap, .nilIface] ∧ h = (⟨own ++ [bkE w.heap.size sf sc sh] ++ [e'], ro⟩ : H)))
    (hb.mono (fun e he => by simp [he]) (fun _ _ h => h)) (fun h => .inl ⟨h, by rw [eno_ne h], rfl⟩) (fun ho hr => .inr (.inl ⟨ho, hr, rfl, rfl⟩)) (fun r s' e' ho hr _ => .inr (.inr ⟨ho, by rw [hr]; simp, s', e', rfl, rfl⟩)) _ hw1
  have q0 := rd_sound hw1 (bkE_0 (r := w.heap.size) (sf := sf) (sc := sc) (sh := sh) (by simp))
  have q1 := rd_sound hw1 (bkE_1 (r := w.heap.size) (sf := sf) (sc := sc) (sh := sh) (by simp))
  have q2 := rd_sound hw1 (bkE_2 (r := w.heap.size) (sf := sf) (sc := sc) (sh := sh) (by simp))
  have dropH : ∀ {w' : World} {X : List Ent}, Holds w' ⟨own ++ X, ro⟩ → Fr w w' ⟨own, ro⟩ ⟨own ++ X, ro⟩ → Holds w' ⟨own, ro⟩ ∧ Fr w w' ⟨own, ro⟩ ⟨own, ro⟩ := by
    intro w' X a c
    have g : Gh ⟨own ++ X, ro⟩ ⟨own, ro⟩ := Gh.drop (List.sublist_append_left _ _)
    exact ⟨g.holds _ a, c.trans (g.fr _)⟩
  unfold bkV
  go_enter Tryd.func10, Tryd.ntmps10
  go_wp2_with (go_at_call 22; refine S22.mono ?_; rintro e w2 ⟨v, h', rfl, hh2, hf2, hp⟩; refine Hid.out ?_)
  refine Lib.hid ?_
  rcases hp with ⟨hc, rfl, rfl⟩ | ⟨ho, hr, rfl, rfl⟩ | ⟨ho, hr, s', e', rfl, rfl⟩
  · go_wp2
    go_ret2
    obtain ⟨k1, k2⟩ := dropH hh2 (hf1.trans hf2)
    exact ⟨_, _, rfl, k1, k2, by rw [← eno_ne hc]; exact h0 hc⟩
  · go_wp2
    go_ret2
    obtain ⟨k1, k2⟩ := dropH hh2 (hf1.trans hf2)
    exact ⟨_, _, rfl, k1, k2, h1 ho hr⟩
  · have hh2' := hh2
    have p0 := rd_sound hh2 (bkE_0 (r := w.heap.size) (sf := sf) (sc := sc) (sh := sh) (by simp))
    have p1 := rd_sound hh2 (bkE_1 (r := w.heap.size) (sf := sf) (sc := sc) (sh := sh) (by simp))
    have p2 := rd_sound hh2 (bkE_2 (r := w.heap.size) (sf := sf) (sc := sc) (sh := sh) (by simp))
    have S17 := fresh_ro (b := b) (sf := sf) (sc := sc) (sh := sh) (own := own ++ [bkE w.heap.size sf sc sh] ++ [e']) (ro := ro)
      (post := fun v h => ∃ sf' sc' sh' ro', (∀ a v, ro a = some v → ro' a = some v) ∧ BkRd ⟨[], ro'⟩ sf' sc' sh' b ∧ v = .agg #[.slice sf'.a sf'.len sf'.cap, .slice sc'.a sc'.len sc'.cap, .slice sh'.a sh'.len sh'.cap] ∧ h = (⟨own, ro'⟩ : H))
      (hb.mono (fun e he => by simp [he]) (fun _ _ h => h)) ho.bsh (fun sf' sc' sh' ro' m rd => ⟨⟨own, ro'⟩, Gh.drop (by simp), sf', sc', sh', ro', m, rd, rfl, rfl⟩) _ hh2
    go_wp2_with (go_at_call 17; refine S17.mono ?_; rintro e w3 ⟨v, h', rfl, hh3, hf3, hp⟩; refine Hid.out ?_)
    refine Lib.hid ?_
    obtain ⟨h3, g3, sf', sc', sh', ro', m, rd, rfl, rfl⟩ := hp
    go_wp2
    go_ret2
    have hhA := g3.holds _ hh3
    have frA := hf1.trans (hf2.trans (hf3.trans (g3.fr w3)))
    obtain ⟨n1, n2⟩ := new_holds hhA (boE ⟨w3.heap.size, sf', sc', sh', false, ⟨none, 0, 0⟩, 0, ⟨none, [], 0⟩, []⟩).cells #[.slice sf'.a sf'.len sf'.cap, .slice sc'.a sc'.len sc'.cap, .slice sh'.a sh'.len sh'.cap, .pointer none, .slice none 0 0, .int .i64 0] 52 (boE ⟨w3.heap.size, sf', sc', sh', false, ⟨none, 0, 0⟩, 0, ⟨none, [], 0⟩, []⟩) rfl rfl rfl (List.prefix_refl _)
    obtain ⟨n3, n4⟩ := holds_sh (r := w3.heap.size) (T := 52) (n := 6) n1 (by
      have := heap_alloc_new w3 (.cells #[.slice sf'.a sf'.len sf'.cap, .slice sc'.a sc'.len sc'.cap, .slice sh'.a sh'.len sh'.cap, .pointer none, .slice none 0 0, .int .i64 0] 52)
      simp only [World.shape?, this]
      rfl)
    have g5 := Gh.phantom (own ++ [boE ⟨w3.heap.size, sf', sc', sh', false, ⟨none, 0, 0⟩, 0, ⟨none, [], 0⟩, []⟩] ++ [shE w3.heap.size 52 6]) [] ro' 0
    simp only [List.append_nil, List.append_assoc, List.cons_append, List.nil_append] at g5 n3 n4
    refine ⟨_, ⟨own ++ boL ⟨w3.heap.size, sf', sc', sh', false, ⟨none, 0, 0⟩, 0, ⟨none, [], 0⟩, []⟩, ro'⟩, rfl, g5.holds _ n3, (frA.trans n2).trans (n4.trans (g5.fr _)), ?_⟩
    exact h2 ho hr ⟨w3.heap.size, sf', sc', sh', false, ⟨none, 0, 0⟩, 0, ⟨none, [], 0⟩, []⟩ ro' m ⟨rd, ho.bsh, BufE.nil, rfl, rfl, Nat.zero_le _, by simp⟩
end Go.Proofs.YtnppmcgmmdcpiaaDoor
