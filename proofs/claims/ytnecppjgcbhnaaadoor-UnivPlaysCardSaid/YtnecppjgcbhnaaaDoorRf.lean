import Derived.Test.YtnecppjgcbhnaaaDoorAsem
import Derived.Test.YtnecppjgcbhnaaaDoorEngK
namespace Go.Proofs.YtnecppjgcbhnaaaDoor
open Go.Eng
set_option maxRecDepth 20000
/-! ### what references do: copies that nobody writes again -/
theorem app_new {s : SV} {xs : List Int} {own : List Ent} {ro : Addr → Option Value} {K : SV → H → Prop} (hr : RdSl ⟨own, ro⟩ s (ints xs)) (hb : s.len ≤ 1000000000)
    (hk : ∀ (s' : SV) (e' : Ent), OwnsSl 1 s' e' (ints xs) → s'.len = s.len → (∀ a v, ro a = some v → e'.id ≠ some a.block) → K s' ⟨own ++ [e'], ro⟩) :
    appVC Tryd.prog 22 (.slice none 0 0) (.slice s.a s.len s.cap) ⟨own, ro⟩ K := by
  refine appVC_of (s := ⟨none, 0, 0⟩) (s2 := s) grows_ints (ys := ints xs) (by have := hr.len; omega) hr.rows.rdS (allOne_ints xs) hr.2.1 (A := own) (C := []) (en := ⟨none, [], 0⟩) (xs := []) (by simpa using Gh.phantom own [] ro 0) (OwnsSl.nil 1) (by simp only; omega) (fun s' e' o l _ _ hf => hk s' e' (by simpa using o) (by simpa using l) (fun a v hv hid => ?_))
  rcases hf _ hid with h | h
  · cases h
  · exact h.2 a v hv rfl
theorem join_bk {h : H} {A : (Bool → H → Prop) → Prop} {K : Bool → H → Prop} (b : Bool) (hK : K b h) (hA : A (fun x h' => h' = h ∧ x = b)) : ∃ R : Bool → H → Prop, A R ∧ ∀ (_ : F) (x : Bool) (h' : H), R x h' → K x h' := join_b b hA hK
theorem ref3_set_c {s : SV} {xs : List Int} {i n : Int} {own : List Ent} {ro : Addr → Option Value} {post : Value → H → Prop} (hr : RdSl ⟨own, ro⟩ s (ints xs)) (h0 : 0 ≤ i) (h1 : i < ((s.len : Nat) : Int)) (hb : s.len ≤ 1000000000)
    (hk : ∀ (s' : SV) (ro' : Addr → Option Value), (∀ a v, ro a = some v → ro' a = some v) → RdSl ⟨[], ro'⟩ s' (ints (xs.set i.toNat n)) → s'.len = s.len → post (.slice s'.a s'.len s'.cap) ⟨own, ro'⟩) :
    SemCall Tryd.prog 37 (List.toArray [.slice s.a s.len s.cap, .int .i64 i, .int .i64 n]) ⟨own, ro⟩ post := by
  refine f37_call _ _ _ _ post (app_new hr hb (fun s' e' o l hf => ?_))
  refine wr_at own e' [] rfl o h0 (by omega) (fun e2 o2 hid => ?_)
  have hf2 : ∀ a v, ro a = some v → e2.id ≠ some a.block := fun a v h => by rw [hid]; exact hf a v h
  exact ⟨_, by simpa using Gh.freeze own [] ro e2 hf2, hk _ _ (frozen_mono hf2) (RdSl.frozen o2) l⟩

theorem HasErrT.up {ro ro' : Addr → Option Value} (h : HasErrT ro) (h2 : ∀ a v, ro a = some v → ro' a = some v) : HasErrT ro' := h2 _ _ h
theorem rI {h : H} {b o j : Nat} {n : Int} {K : Int → Prop} (e : Ent) (he : e ∈ h.own) (hid : e.id = some b) (hc : e.cells[o + j]? = some (.int .i64 n)) (hK : K n) : ∃ x : Int, H.rd h (Addr.add (Addr.mk b o none) j) (.int .i64 x) ∧ K x := ⟨n, by rw [add_mk']; exact rdo e he hid hc, hK⟩
theorem rI0 {h : H} {b o j : Nat} {n : Int} {K : Int → Prop} (e : Ent) (he : e ∈ h.own) (hid : e.id = some b) (hc : e.cells[o + j]? = some (.int .i64 n)) (hK : K n) : ∃ x : Int, H.rd h (Addr.add (Addr.add (Addr.mk b o none) j) 0) (.int .i64 x) ∧ K x := ⟨n, by rw [add_mk', add_mk']; exact rdo e he hid hc, hK⟩
theorem rS {h : H} {b o j : Nat} {s : SV} {K : SV → Prop} (e : Ent) (he : e ∈ h.own) (hid : e.id = some b) (hc : e.cells[o + j]? = some (.slice s.a s.len s.cap)) (hK : K s) : ∃ x : SV, H.rd h (Addr.add (Addr.mk b o none) j) (.slice x.a x.len x.cap) ∧ K x := ⟨s, by rw [add_mk']; exact rdo e he hid hc, hK⟩
theorem rS0 {h : H} {b o j : Nat} {s : SV} {K : SV → Prop} (e : Ent) (he : e ∈ h.own) (hid : e.id = some b) (hc : e.cells[o + j]? = some (.slice s.a s.len s.cap)) (hK : K s) : ∃ x : SV, H.rd h (Addr.add (Addr.add (Addr.mk b o none) j) 0) (.slice x.a x.len x.cap) ∧ K x := ⟨s, by rw [add_mk', add_mk']; exact rdo e he hid hc, hK⟩
theorem wF {own : List Ent} {ro : Addr → Option Value} {b o j : Nat} {vs : List Value} {K : H → Prop} (A : List Ent) (e : Ent) (C : List Ent) (h1 : allOne vs) (hown : own = A ++ e :: C) (hid : e.id = some b) (hlen : o + j + vs.length ≤ e.cells.length)
    (hK : K ⟨A ++ ⟨some b, spl e.cells (o + j) vs, e.cap⟩ :: C, ro⟩) : H.wr ⟨own, ro⟩ (Addr.add (Addr.mk b o none) j) vs K := by
  rw [add_mk']
  exact wro A e C h1 hown hid hlen (by rw [hid]; exact hK)
theorem new2 {own : List Ent} {ro : Addr → Option Value} {c1 c2 : List Value} {n1 n2 : Nat} {K : Nat → Nat → H → Prop} (h1 : c1.length = n1) (h2 : c2.length = n2) (h : ∀ r1 r3, K r1 r3 ⟨own ++ [⟨some r1, c1, n1⟩, ⟨some r3, c2, n2⟩], ro⟩) :
    H.new ⟨own, ro⟩ c1 fun r1 h2 => H.new h2 c2 fun r3 h4 => K r1 r3 h4 := by
  intro r1 _ r3 _
  subst h1 h2
  have := h r1 r3
  rw [show own ++ [⟨some r1, c1, c1.length⟩, ⟨some r3, c2, c2.length⟩] = own ++ [⟨some r1, c1, c1.length⟩] ++ [⟨some r3, c2, c2.length⟩] by simp] at this
  exact this
theorem rB {h : H} {b o j : Nat} {n : Bool} {K : Bool → Prop} (e : Ent) (he : e ∈ h.own) (hid : e.id = some b) (hc : e.cells[o + j]? = some (.bool n)) (hK : K n) : ∃ x : Bool, H.rd h (Addr.add (Addr.mk b o none) j) (.bool x) ∧ K x := ⟨n, by rw [add_mk']; exact rdo e he hid hc, hK⟩
theorem ref3_more_c {s : SV} {xs : List Int} {n : Int} {own : List Ent} {ro : Addr → Option Value} {post : Value → H → Prop} (hr : RdSl ⟨own, ro⟩ s (ints xs)) (hb : s.len + 1 ≤ 1000000000)
    (hk : ∀ (s' : SV) (ro' : Addr → Option Value), (∀ a v, ro a = some v → ro' a = some v) → RdSl ⟨[], ro'⟩ s' (ints (xs ++ [n])) → s'.len = s.len + 1 → post (.slice s'.a s'.len s'.cap) ⟨own, ro'⟩) :
    SemCall Tryd.prog 41 (List.toArray [.slice s.a s.len s.cap, .int .i64 n]) ⟨own, ro⟩ post := by
  refine f41_call _ _ _ post (app_new hr (by omega) (fun s' e' o l hf => ?_))
  intro r hr3
  have hl := o.sl_len
  rw [ints_length] at hl
  refine appVC_of (s2 := ⟨some (Addr.mk r 0 none), 1, 1⟩) grows_ints (ys := [.int .i64 n]) (by simp) ?_ ⟨rfl, trivial⟩ (by simp) (A := own) (C := []) (en := e') (ro := ro) (Gh.drop (by simp)) o (by simp only; omega) (fun s2 e2 o2 l2 _ _ hid => ?_)
  · intro j v hv
    rw [add_mk']
    exact rdo ⟨some r, [.int .i64 n], 1⟩ (by simp) rfl (by simpa using hv)
  have hf2 : ∀ a v, ro a = some v → e2.id ≠ some a.block := fun a v h hb => by
    rcases hid _ hb with h1 | h1
    · exact hf a v h h1
    · exact h1.2 a v h rfl
  exact ⟨_, by simpa using Gh.freeze own [] ro e2 hf2, hk _ _ (frozen_mono hf2) (RdSl.frozen (by simpa [ints, intV] using o2)) (by simp only at l2; omega)⟩
theorem ref3_in_c {n lo hi : Int} {h : H} {post : Value → H → Prop} (hk : post (.bool (decide (lo ≤ n ∧ n ≤ hi))) h) : SemCall Tryd.prog 40 (List.toArray [.int .i64 n, .int .i64 lo, .int .i64 hi]) h post := by
  refine f40_call n lo hi h post ?_
  refine ⟨fun b h' => h' = h ∧ b = decide (lo ≤ n ∧ n ≤ hi), VIf_dec (fun hx => gi ⟨rfl, ?_⟩) (fun hx => gi ⟨rfl, ?_⟩), ?_⟩
  · have : lo ≤ n := hx; simp [this]
  · have : ¬ lo ≤ n := hx; simp [this]
  · rintro _ b h' ⟨rfl, rfl⟩; exact ret hk
/-- rows that are made, and nobody writes again -/
def rowZ (p : Nat × List Int) : Ent := ⟨some p.1, ints p.2, p.2.length⟩
def svZ (p : Nat × List Int) : SV := ⟨some (Addr.mk p.1 0 none), p.2.length, p.2.length⟩
theorem frzL {own : List Ent} : ∀ (l : List (Nat × List Int)) (ro : Addr → Option Value), (l.map (·.1)).Nodup → (∀ p ∈ l, ∀ a v, ro a = some v → a.block ≠ p.1) → (∀ p ∈ l, p.2.length ≤ maxLen) →
    ∃ ro', Gh ⟨own ++ l.map rowZ, ro⟩ ⟨own, ro'⟩ ∧ (∀ a v, ro a = some v → ro' a = some v) ∧ ∀ p ∈ l, RdSl ⟨[], ro'⟩ (svZ p) (ints p.2)
  | [], ro, _, _, _ => ⟨ro, by simpa using Gh.refl _, fun _ _ h => h, fun p hp => by simp at hp⟩
  | p :: l, ro, hn, hf, hm => by
    rw [List.map_cons, List.nodup_cons] at hn
    have hp : ∀ a v, ro a = some v → (rowZ p).id ≠ some a.block := fun a v h hb => hf p (by simp) a v h (Option.some.inj hb).symm
    obtain ⟨ro', g, m, r⟩ := frzL (own := own) l (Go.Eng.frozen (rowZ p) ro) hn.2 (fun q hq a v h => by
      unfold Go.Eng.frozen at h
      split at h
      · rename_i hc
        intro he
        have h1 : p.1 = a.block := Option.some.inj hc.1
        exact hn.1 (by rw [h1, he]; exact List.mem_map_of_mem hq)
      · exact hf q (by simp [hq]) a v h) (fun q hq => hm q (by simp [hq]))
    refine ⟨ro', (Gh.freeze own (l.map rowZ) ro (rowZ p) hp).trans g, fun a v h => m a v (frozen_mono hp a v h), fun q hq => ?_⟩
    simp only [List.mem_cons] at hq
    rcases hq with rfl | hq
    · exact RdSl.up (RdSl.frozen (e := rowZ q) (OwnsSl.at0 1 (by simp [ints]) (by simp) (hm q (by simp)))) (by simp) m
    · exact r q hq
end Go.Proofs.YtnecppjgcbhnaaaDoor
