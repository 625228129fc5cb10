import Derived.Test.YtnppmcgmmdcpiaaGreatDoorAsem
import Derived.Test.YtnppmcgmmdcpiaaGreatDoorEngK
namespace Go.Proofs.YtnppmcgmmdcpiaaGreatDoor
open Go.Eng
set_option maxRecDepth 20000
/-! ### what references do: copies that nobody writes again -/
theorem app_new {s : SV} {xs : List Int} {own : List Ent} {ro : Addr → Option Value} {K : SV → H → Prop} (hr : RdSl ⟨own, ro⟩ s (ints xs)) (hb : s.len ≤ 1000000000)
    (hk : ∀ (s' : SV) (e' : Ent), OwnsSl 1 s' e' (ints xs) → s'.len = s.len → (∀ a v, ro a = some v → e'.id ≠ some a.block) → K s' ⟨own ++ [e'], ro⟩) :
    appVC Tryz.prog 22 (.slice none 0 0) (.slice s.a s.len s.cap) ⟨own, ro⟩ K := by
  refine appVC_of (s := ⟨none, 0, 0⟩) (s2 := s) grows_ints (ys := ints xs) (by have := hr.len; omega) hr.rows.rdS (allOne_ints xs) hr.2.1 (A := own) (C := []) (en := ⟨none, [], 0⟩) (xs := []) (by simpa using Gh.phantom own [] ro 0) (OwnsSl.nil 1) (by simp only; omega) (fun s' e' o l _ _ hf => hk s' e' (by simpa using o) (by simpa using l) (fun a v hv hid => ?_))
  rcases hf _ hid with h | h
  · cases h
  · exact h.2 a v hv rfl
theorem join_bk {h : H} {A : (Bool → H → Prop) → Prop} {K : Bool → H → Prop} (b : Bool) (hK : K b h) (hA : A (fun x h' => h' = h ∧ x = b)) : ∃ R : Bool → H → Prop, A R ∧ ∀ (_ : F) (x : Bool) (h' : H), R x h' → K x h' := join_b b hA hK

theorem HasErrT.up {ro ro' : Addr → Option Value} (h : HasErrT ro) (h2 : ∀ a v, ro a = some v → ro' a = some v) : HasErrT ro' := h2 _ _ h
theorem rI {h : H} {b o j : Nat} {n : Int} {K : Int → Prop} (e : Ent) (he : e ∈ h.own) (hid : e.aid = some b) (hc : e.cells[o + j]? = some (.int .i64 n)) (hK : K n) : ∃ x : Int, H.rd h (Addr.add (Addr.mk b o none) j) (.int .i64 x) ∧ K x := ⟨n, by rw [add_mk']; exact rdo e he hid hc, hK⟩
theorem rI0 {h : H} {b o j : Nat} {n : Int} {K : Int → Prop} (e : Ent) (he : e ∈ h.own) (hid : e.aid = some b) (hc : e.cells[o + j]? = some (.int .i64 n)) (hK : K n) : ∃ x : Int, H.rd h (Addr.add (Addr.add (Addr.mk b o none) j) 0) (.int .i64 x) ∧ K x := ⟨n, by rw [add_mk', add_mk']; exact rdo e he hid hc, hK⟩
theorem rS {h : H} {b o j : Nat} {s : SV} {K : SV → Prop} (e : Ent) (he : e ∈ h.own) (hid : e.aid = some b) (hc : e.cells[o + j]? = some (.slice s.a s.len s.cap)) (hK : K s) : ∃ x : SV, H.rd h (Addr.add (Addr.mk b o none) j) (.slice x.a x.len x.cap) ∧ K x := ⟨s, by rw [add_mk']; exact rdo e he hid hc, hK⟩
theorem rS0 {h : H} {b o j : Nat} {s : SV} {K : SV → Prop} (e : Ent) (he : e ∈ h.own) (hid : e.aid = some b) (hc : e.cells[o + j]? = some (.slice s.a s.len s.cap)) (hK : K s) : ∃ x : SV, H.rd h (Addr.add (Addr.add (Addr.mk b o none) j) 0) (.slice x.a x.len x.cap) ∧ K x := ⟨s, by rw [add_mk', add_mk']; exact rdo e he hid hc, hK⟩
theorem wF {own : List Ent} {ro : Addr → Option Value} {b o j : Nat} {vs : List Value} {K : H → Prop} (A : List Ent) (e : Ent) (C : List Ent) (h1 : allOne vs) (hown : own = A ++ e :: C) (hid : e.aid = some b) (hlen : o + j + vs.length ≤ e.cells.length)
    (hK : K ⟨A ++ ⟨some b, spl e.cells (o + j) vs, e.cap⟩ :: C, ro⟩) : H.wr ⟨own, ro⟩ (Addr.add (Addr.mk b o none) j) vs K := by
  rw [add_mk']
  exact wro A e C h1 hown hid hlen (by rw [hid]; exact hK)
theorem new2 {own : List Ent} {ro : Addr → Option Value} {c1 c2 : List Value} {n1 n2 : Nat} {K : Nat → Nat → H → Prop} (h1 : c1.length = n1) (h2 : c2.length = n2) (h : ∀ r1 r3, K r1 r3 ⟨own ++ [⟨some r1, c1, n1⟩, ⟨some r3, c2, n2⟩], ro⟩) :
    H.new ⟨own, ro⟩ c1 fun r1 h2 => H.new h2 c2 fun r3 h4 => K r1 r3 h4 := by
  intro r1 _ r3 _
  subst h1 h2
  have := h r1 r3
  rw [show own ++ [⟨some r1, c1, c1.length⟩, ⟨some r3, c2, c2.length⟩] = own ++ [⟨some r1, c1, c1.length⟩] ++ [⟨some r3, c2, c2.length⟩] by simp] at this
  exact this
theorem rB {h : H} {b o j : Nat} {n : Bool} {K : Bool → Prop} (e : Ent) (he : e ∈ h.own) (hid : e.aid = some b) (hc : e.cells[o + j]? = some (.bool n)) (hK : K n) : ∃ x : Bool, H.rd h (Addr.add (Addr.mk b o none) j) (.bool x) ∧ K x := ⟨n, by rw [add_mk']; exact rdo e he hid hc, hK⟩
/-- rows that are made, and nobody writes again -/
def rowZ (p : Nat × List Int) : Ent := ⟨some p.1, ints p.2, p.2.length⟩
def svZ (p : Nat × List Int) : SV := ⟨some (Addr.mk p.1 0 none), p.2.length, p.2.length⟩
theorem frzL {own : List Ent} : ∀ (l : List (Nat × List Int)) (ro : Addr → Option Value), (l.map (·.1)).Nodup → (∀ p ∈ l, ∀ a v, ro a = some v → a.block ≠ p.1) → (∀ p ∈ l, p.2.length ≤ maxLen) →
    ∃ ro', Gh ⟨own ++ l.map rowZ, ro⟩ ⟨own, ro'⟩ ∧ (∀ a v, ro a = some v → ro' a = some v) ∧ ∀ p ∈ l, RdSl ⟨[], ro'⟩ (svZ p) (ints p.2)
  | [], ro, _, _, _ => ⟨ro, by simpa using Gh.refl _, fun _ _ h => h, fun p hp => by simp at hp⟩
  | p :: l, ro, hn, hf, hm => by
    rw [List.map_cons, List.nodup_cons] at hn
    have hp : ∀ a v, ro a = some v → (rowZ p).id ≠ some a.block := fun a v h hb => hf p (by simp) a v h (Option.some.inj hb).symm
    obtain ⟨ro', g, m, r⟩ := frzL (own := own) l (Go.Eng.frozen (rowZ p) ro) hn.2 (fun q hq a v h => by
      unfold Go.Eng.frozen at h
      split at h
      · rename_i hc
        intro he
        have h1 : p.1 = a.block := Option.some.inj hc.1
        exact hn.1 (by rw [h1, he]; exact List.mem_map_of_mem hq)
      · exact hf q (by simp [hq]) a v h) (fun q hq => hm q (by simp [hq]))
    refine ⟨ro', (Gh.freeze own (l.map rowZ) ro (rowZ p) hp).trans g, fun a v h => m a v (frozen_mono hp a v h), fun q hq => ?_⟩
    simp only [List.mem_cons] at hq
    rcases hq with rfl | hq
    · exact RdSl.up (RdSl.frozen (e := rowZ q) (OwnsSl.at0 1 (by simp [ints]) (by simp) (hm q (by simp)))) (by simp) m
    · exact r q hq
theorem new1a {A B : List Ent} {ro : Addr → Option Value} {c : List Value} {n : Nat} {K : Nat → H → Prop} (hn : c.length = n) (h : ∀ r, K r ⟨A ++ (B ++ [⟨some r, c, n⟩]), ro⟩) : H.new ⟨A ++ B, ro⟩ c K := by
  intro r _
  subst hn
  show K r ⟨A ++ B ++ [⟨some r, c, c.length⟩], ro⟩
  rw [List.append_assoc]
  exact h r
/-! ### rows with names of their own, apart from what is only read -/
structure Wf (h : H) : Prop where
  nd : (h.own.filterMap Ent.id).Nodup
  ap : ∀ a v, h.ro a = some v → ∀ e ∈ h.own, e.id ≠ some a.block
theorem SemCall.wf {P : Program} {f : FuncId} {args : Array Value} {h : H} {post : Value → H → Prop} (hx : Wf h → SemCall P f args h post) : SemCall P f args h post := fun w hw => hx ⟨hw.nd, hw.ap⟩ w hw
theorem ids_mid (A C : List Ent) (e : Ent) : (A ++ e :: C).filterMap Ent.id = A.filterMap Ent.id ++ (e.id.toList ++ C.filterMap Ent.id) := by
  cases h : e.id <;> simp [List.filterMap_append, h]
theorem Wf.swap {A C : List Ent} {en en' : Ent} {ro : Addr → Option Value} (h : Wf ⟨A ++ en :: C, ro⟩) (hid : ∀ b, en'.id = some b → en.id = some b ∨ (⟨A ++ en :: C, ro⟩ : H).fresh b) : Wf ⟨A ++ en' :: C, ro⟩ := by
  obtain ⟨nd, ap⟩ := h
  have ap' : ∀ a v, ro a = some v → ∀ e ∈ A ++ en' :: C, e.id ≠ some a.block := by
    intro a v hv e he
    simp only [List.mem_append, List.mem_cons] at he
    rcases he with he | rfl | he
    · exact ap a v hv e (by simp [he])
    · intro hb
      rcases hid _ hb with h1 | h1
      · exact ap a v hv en (by simp) h1
      · exact h1.2 a v hv rfl
    · exact ap a v hv e (by simp [he])
  refine ⟨?_, ap'⟩
  dsimp only at nd ⊢
  rw [ids_mid] at nd ⊢
  cases he : en'.id with
  | none =>
    refine nd.sublist ?_
    simp only [Option.toList_none, List.nil_append]
    exact List.Sublist.append_left (List.sublist_append_right _ _) _
  | some b =>
    rcases hid b he with h1 | h1
    · rw [h1] at nd; exact nd
    · have hb : b ∉ A.filterMap Ent.id ++ C.filterMap Ent.id := by
        simp only [List.mem_append, List.mem_filterMap]
        rintro (⟨e, h2, h3⟩ | ⟨e, h2, h3⟩)
        · exact h1.1 e (by simp [h2]) h3
        · exact h1.1 e (by simp [h2]) h3
      have nd2 : (A.filterMap Ent.id ++ C.filterMap Ent.id).Nodup := nd.sublist (List.Sublist.append_left (List.sublist_append_right _ _) _)
      have : (b :: (A.filterMap Ent.id ++ C.filterMap Ent.id)).Perm (A.filterMap Ent.id ++ ((some b).toList ++ C.filterMap Ent.id)) := by
        simp only [Option.toList_some, List.singleton_append]
        exact List.perm_middle.symm
      exact this.nodup (List.nodup_cons.2 ⟨hb, nd2⟩)
theorem Wf.ph {A C : List Ent} {ro : Addr → Option Value} (h : Wf ⟨A ++ C, ro⟩) : Wf ⟨A ++ ⟨none, [], 0⟩ :: C, ro⟩ := by
  refine ⟨?_, fun a v hv e he => ?_⟩
  · have := h.nd
    simp only [List.filterMap_append, List.filterMap_cons] at this ⊢
    exact this
  · simp only [List.mem_append, List.mem_cons] at he
    rcases he with he | rfl | he
    · exact h.ap a v hv e (by simp [he])
    · exact fun h => nomatch h
    · exact h.ap a v hv e (by simp [he])
theorem Wf.add {own : List Ent} {ro : Addr → Option Value} {e : Ent} {r : Nat} (h : Wf ⟨own, ro⟩) (f : (⟨own, ro⟩ : H).fresh r) (he : e.id = some r) : Wf ⟨own ++ [e], ro⟩ := by
  have h1 : Wf ⟨own ++ ⟨none, [], 0⟩ :: [], ro⟩ := Wf.ph (by simpa using h)
  refine Wf.swap h1 (fun b hb => .inr ?_)
  rw [he] at hb
  cases hb
  refine ⟨fun e2 h2 => ?_, f.2⟩
  simp only [List.mem_append, List.mem_singleton] at h2
  rcases h2 with h2 | rfl
  · exact f.1 e2 h2
  · exact fun h => nomatch h
theorem Wf.ids {own own' : List Ent} {ro : Addr → Option Value} (h : Wf ⟨own, ro⟩) (he : own'.map Ent.id = own.map Ent.id) : Wf ⟨own', ro⟩ := by
  have e : own'.filterMap Ent.id = own.filterMap Ent.id := by
    have k : ∀ l : List Ent, l.filterMap Ent.id = (l.map Ent.id).filterMap (fun x => x) := fun l => by rw [List.filterMap_map]; rfl
    rw [k, k, he]
  refine ⟨by show (own'.filterMap Ent.id).Nodup; rw [e]; exact h.nd, fun a v hv x hx hb => ?_⟩
  have : some a.block ∈ own'.map Ent.id := by rw [← hb]; exact List.mem_map_of_mem hx
  rw [he, List.mem_map] at this
  obtain ⟨y, hy, hyb⟩ := this
  exact h.ap a v hv y hy hyb
theorem Wf.sub {own own' : List Ent} {ro : Addr → Option Value} (h : Wf ⟨own, ro⟩) (hs : own'.Sublist own) : Wf ⟨own', ro⟩ := ⟨h.nd.sublist (hs.filterMap _), fun a v hv e he => h.ap a v hv e (hs.subset he)⟩
theorem frzE {own : List Ent} : ∀ (l : List Ent) (ro : Addr → Option Value), Wf ⟨own ++ l, ro⟩ →
    ∃ ro', Gh ⟨own ++ l, ro⟩ ⟨own, ro'⟩ ∧ (∀ a v, ro a = some v → ro' a = some v) ∧ ∀ e ∈ l, ∀ s xs, OwnsSl 1 s e xs → RdSl ⟨[], ro'⟩ s xs
  | [], ro, _ => ⟨ro, by simpa using Gh.refl _, fun _ _ h => h, fun p hp => by simp at hp⟩
  | e :: l, ro, h => by
    have hp : ∀ a v, ro a = some v → e.id ≠ some a.block := fun a v hv => h.ap a v hv e (by simp)
    have h2 : Wf ⟨own ++ l, Go.Eng.frozen e ro⟩ := by
      refine ⟨(h.sub (own' := own ++ l) (List.Sublist.append_left (List.sublist_cons_self _ _) _)).nd, fun a v hv x hx hb => ?_⟩
      dsimp only at hv hx
      unfold Go.Eng.frozen at hv
      split at hv
      · rename_i hc
        have nd := h.nd
        dsimp only at nd
        rw [ids_mid, Ent.blk_of_id hc.1] at nd
        have nd2 : (a.block :: (own.filterMap Ent.id ++ l.filterMap Ent.id)).Nodup := by
          refine List.Perm.nodup ?_ nd
          simp only [Option.toList_some, List.singleton_append]
          exact List.perm_middle
        refine (List.nodup_cons.1 nd2).1 ?_
        rw [← List.filterMap_append]
        exact List.mem_filterMap.2 ⟨x, hx, hb⟩
      · exact h.ap a v hv x (by simp only [List.mem_append, List.mem_cons] at hx ⊢; rcases hx with hx | hx <;> simp [hx]) hb
    obtain ⟨ro', g, m, r⟩ := frzE (own := own) l (Go.Eng.frozen e ro) h2
    refine ⟨ro', (Gh.freeze own l ro e hp).trans g, fun a v h => m a v (frozen_mono hp a v h), fun x hx s xs o => ?_⟩
    simp only [List.mem_cons] at hx
    rcases hx with rfl | hx
    · exact RdSl.up (RdSl.frozen o) (by simp) m
    · exact r x hx s xs o
theorem app_rowW {P : Program} {t e : TypeId} {sz : Nat} (g : Grows P t e sz) {s : SV} {K : SV → H → Prop} {vs : List Value} (hl : vs.length = sz) (h1 : allOne vs)
    (A : List Ent) (en : Ent) (C : List Ent) {own : List Ent} {xs : List Value} {ro : Addr → Option Value} (hown : own = A ++ en :: C) (ho : OwnsSl sz s en xs) (hw : Wf ⟨own, ro⟩) (hb : s.len + 1 ≤ 1000000000)
    (hk : ∀ (s' : SV) (en' : Ent), OwnsSl sz s' en' (xs ++ vs) → s'.len = s.len + 1 → Wf ⟨A ++ en' :: C, ro⟩ → K s' ⟨A ++ en' :: C, ro⟩) :
    H.new ⟨own, ro⟩ vs fun r h' => appVC P t (.slice s.a s.len s.cap) (.slice (some (Addr.mk r 0 none)) 1 1) h' K := by
  intro r _
  subst hown
  refine appVC_of (s2 := ⟨some (Addr.mk r 0 none), 1, 1⟩) g (ys := vs) (by simp [hl]) ?_ h1 (by simp) (Gh.drop (own' := A ++ en :: C) (by simp)) ho hb (fun s' en' o1 o2 _ _ hid => hk s' en' o1 o2 (hw.swap hid))
  intro j v hv
  rw [add_mk']
  exact rdo ⟨some r, vs, vs.length⟩ (by simp) rfl (by simpa using hv)
end Go.Proofs.YtnppmcgmmdcpiaaGreatDoor
