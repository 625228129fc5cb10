
import Derived.Test.YtnppmcgmmdcpiaaGreatDoorDc
namespace Go.Proofs.YtnppmcgmmdcpiaaGreatDoor
open Go.Eng
set_option maxRecDepth 20000
set_option maxHeartbeats 1000000 in
theorem danswer_c {x : Bo} {sf sc sh : SV} {l : List UInt8} (hl : l.length ≤ 1000000) {own : List Ent} {ro : Addr → Option Value} {post : Value → H → Prop} (hx : BkRd ⟨[], ro⟩ sf sc sh x.b) (hDI : DI x) (hk : aK x l own ro post) :
    SemCall Tryz.prog 47 (List.toArray [dV sf sc sh x.l (x.n : Int), .string (bs l)]) ⟨own, ro⟩ post := by
  refine f47_call sf sc sh (bs x.l) (x.n : Int) (bs l) _ post ?_
  unfold f47_sem
  intro r1 _ r3 _
  rw [show (⟨some r1, [Value.slice sf.a sf.len sf.cap, .slice sc.a sc.len sc.cap, .slice sh.a sh.len sh.cap, .string (bs x.l), .int .i64 (x.n : Int)], List.length [Value.slice sf.a sf.len sf.cap, .slice sc.a sc.len sc.cap, .slice sh.a sh.len sh.cap, .string (bs x.l), .int .i64 (x.n : Int)]⟩ : Ent) = dE r1 sf sc sh x.l x.n from rfl,
    show (⟨some r3, [Value.slice none 0 0, .slice none 0 0, .slice none 0 0, .string ByteArray.empty, .int .i64 0], List.length [Value.slice none 0 0, .slice none 0 0, .slice none 0 0, .string ByteArray.empty, .int .i64 0]⟩ : Ent) = dE r3 nilV nilV nilV [] 0 from rfl]
  obtain ⟨w0, wt, hws⟩ : ∃ w0 wt, cutB 32 l = w0 :: wt := by
    cases hc : cutB 32 l with
    | nil => exact absurd hc (cutB_ne 32 l)
    | cons a b => exact ⟨a, b, rfl⟩
  have hwm : ∀ w ∈ cutB 32 l, w.length ≤ 1000000 := fun w hw => Nat.le_trans (cutB_mem hw) hl
  have hwl := cutB_len 32 l
  refine SemCall.wfp (dcut_c hl 32 (fun s7 e7 o7 hwf => ⟨s7, rfl, ?_⟩))
  rw [hws] at o7 hwm hwl
  simp only [List.length_cons] at hwl
  have h7 := o7.sl_len
  simp only [strs, List.length_map, List.length_cons] at h7
  have gph : Gh ⟨aL own r1 r3 sf sc sh x [e7], ro⟩ ⟨aL own r1 r3 sf sc sh x [e7, ⟨none, [], 0⟩], ro⟩ := by
    have := Gh.phantom (aL own r1 r3 sf sc sh x [e7]) [] ro 0
    rw [List.append_nil, aL_app] at this
    exact this
  have hdn : wordsV wt = none → dans x l = (x, sBad) := fun h => by unfold dans; rw [hws, List.tail_cons, h]
  have hds : ∀ {vs}, wordsV wt = some vs → dans x l = ddo x w0 vs := fun h => by unfold dans; rw [hws, List.tail_cons, h]; rfl
  have hwf : Wf ⟨aL own r1 r3 sf sc sh x [e7], ro⟩ := hwf
  have hwp : Wf ⟨aL own r1 r3 sf sc sh x [e7, ⟨none, [], 0⟩], ro⟩ := by
    have := Wf.ph (A := aL own r1 r3 sf sc sh x [e7]) (C := []) (ro := ro) (by rw [List.append_nil]; exact hwf)
    rw [aL_app] at this
    exact this
  refine ⟨fun z h => ∃ vs ro', h = (⟨aL own r1 r3 sf sc sh x [e7], ro'⟩ : H) ∧ (∀ a v, ro a = some v → ro' a = some v) ∧ RdSl ⟨[], ro'⟩ z (ints (natI vs)) ∧ z.len ≤ z.cap ∧ wordsV wt = some vs,
    ⟨fun n z i h => ∃ (k : Nat) (vs : List Nat) (el : Ent), i = 1 + (k : Int) ∧ k ≤ wt.length ∧ n = wt.length - k ∧ h = (⟨aL own r1 r3 sf sc sh x [e7, el], ro⟩ : H) ∧ Wf h ∧ OwnsSl 1 z el (ints (natI vs)) ∧ wordsV (wt.take k) = some vs,
      ⟨_, ⟨_, gph, 0, [], ⟨none, [], 0⟩, rfl, Nat.zero_le _, rfl, rfl, hwp, OwnsSl.nil 1, rfl⟩⟩, ?_⟩, ?_⟩
  · rintro n _ z i h ⟨k, vs, el, rfl, hk1, rfl, rfl, hwe, ho, hv⟩
    unfold f47_L2
    refine VIf_dec (fun hi => ?_) (fun hi => ?_)
    rotate_left
    · have hf : ∀ a v, ro a = some v → el.id ≠ some a.block := fun a v h => hwe.ap a v h el (by simp [aL])
      have g := Gh.freeze (aL own r1 r3 sf sc sh x [e7]) [] ro el hf
      rw [List.append_nil, aL_app] at g
      exact ⟨_, g, vs, _, rfl, frozen_mono hf, RdSl.frozen ho, ho.cap_le, by rwa [List.take_of_length_le (by omega)] at hv⟩
    have hkl : k < wt.length := by omega
    have hol := ho.sl_len
    have hvl := wordsV_len hv
    rw [List.length_take] at hvl
    simp only [ints_length, natI, List.length_map] at hol
    have r7 : RdSl ⟨aL own r1 r3 sf sc sh x [e7, el], ro⟩ s7 (strs (w0 :: wt)) := RdSl.of_own (by simp [aL]) o7
    obtain ⟨b, hb⟩ := r7.addr (by simp [strs])
    have rdk : H.rd ⟨aL own r1 r3 sf sc sh x [e7, el], ro⟩ (Addr.add (Addr.add b ((1 + (k : Int)).toNat * 1)) 0) (.string (bs wt[k])) := by
      have := r7.get hb (i := 1 + k) (v := .string (bs wt[k])) (strs_get (by rw [Nat.add_comm, List.getElem?_cons_succ, List.getElem?_eq_getElem hkl]))
      rw [show (1 + (k : Int)).toNat = 1 + k by omega]
      simpa [Addr.add_zero'] using this
    have hm := aL_1 (own := own) (X := [e7, el]) (r1 := r1) (r3 := r3) (sf := sf) (sc := sc) (sh := sh) (x := x)
    have fin : ∀ (x20 : Int) (c : Bool) (h : H), (h = (⟨aL own r1 r3 sf sc sh x [e7, el], ro⟩ : H) ∧ ((c = true ∧ wordV wt[k] = none) ∨ (c = false ∧ ∃ v : Nat, wordV wt[k] = some v ∧ x20 = (v : Int)))) →
        f47_J1 post r1 r3 (fun n z i h => ∃ (k : Nat) (vs : List Nat) (el : Ent), i = 1 + (k : Int) ∧ k ≤ wt.length ∧ n = wt.length - k ∧ h = (⟨aL own r1 r3 sf sc sh x [e7, el], ro⟩ : H) ∧ Wf h ∧ OwnsSl 1 z el (ints (natI vs)) ∧ wordsV (wt.take k) = some vs) (wt.length - k) z (1 + (k : Int)) x20 c h := by
      rintro x20 c h ⟨rfl, hc⟩
      unfold f47_J1
      refine VIf_b (fun hc1 => ?_) (fun hc1 => ?_)
      · rcases hc with ⟨_, hn⟩ | ⟨hc2, _⟩
        · refine ⟨sf, dE_rd' hm 0 rfl, sc, dE_rd' hm 1 rfl, sh, dE_rd' hm 2 rfl, bs x.l, dE_rd' hm 3 rfl, _, dE_rd' hm 4 rfl, ?_⟩
          exact a_fin sf sc sh x.l (x.n : Int) _ (hk.same hx (fun _ _ h => h) (hdn (wordsV_none (List.getElem_mem _) hn)))
        · rw [hc1] at hc2; cases hc2
      · rcases hc with ⟨hc2, _⟩ | ⟨_, v, hv1, rfl⟩
        · rw [hc1] at hc2; cases hc2
        refine app_rowW grows_ints (vs := [.int .i64 (v : Int)]) rfl ⟨rfl, trivial⟩ (own ++ [dE r1 sf sc sh x.l (x.n : Int)] ++ [dE r3 nilV nilV nilV [] 0] ++ [e7]) el [] (by simp [aL]) ho hwe (by omega) (fun s' e' o' _ hwn => ⟨⟨by omega, by omega⟩, wt.length - (k + 1), by omega, ⟨_, Gh.refl _, k + 1, vs ++ [v], e', by omega, by omega, rfl, by simp [aL], hwn, by rw [natI_snoc]; exact o', ?_⟩⟩)
        rw [List.take_add_one, List.getElem?_eq_getElem hkl]
        exact wordsV_snoc _ _ hv hv1
    refine ⟨b, hb, by omega, by omega, bs wt[k], rdk, dnumber_c (fun v hv1 => ⟨(v : Int), true, rfl, ?_⟩) (fun hno y => ⟨y, false, rfl, ?_⟩)⟩
    · refine ⟨fun c h => h = (⟨aL own r1 r3 sf sc sh x [e7, el], ro⟩ : H) ∧ ((c = true ∧ wordV wt[k] = none) ∨ (c = false ∧ ∃ u : Nat, wordV wt[k] = some u ∧ (v : Int) = (u : Int))), VIf_nb (nomatch ·) (fun _ => ⟨b, hb, by omega, by omega, bs wt[k], rdk, gi ⟨rfl, ?_⟩⟩), fun _ c h hc => fin _ c h hc⟩
      rw [bs_size]
      by_cases h7' : wt[k].length ≤ 7
      · right
        exact ⟨decide_eq_false (by omega), v, wordV_iff.2 ⟨h7', hv1⟩, rfl⟩
      · left
        exact ⟨decide_eq_true (by omega), wordV_none (fun h => h7' h.1)⟩
    · exact ⟨fun c h => h = (⟨aL own r1 r3 sf sc sh x [e7, el], ro⟩ : H) ∧ ((c = true ∧ wordV wt[k] = none) ∨ (c = false ∧ ∃ u : Nat, wordV wt[k] = some u ∧ y = (u : Int))), VIf_nb (fun _ => gi ⟨rfl, .inl ⟨rfl, wordV_none (fun h => hno h.2)⟩⟩) (nomatch ·), fun _ c h hc => fin _ c h hc⟩
  · rintro _ z _ ⟨vs, ro', rfl, m, rl, hcap, hv⟩
    exact a_J8 (hx.mono (by simp) m) hDI (hk.up m) o7 rl hcap (hds hv)
end Go.Proofs.YtnppmcgmmdcpiaaGreatDoor
