
import Derived.Test.YtnppmcgmmdcpiaaGreatDoorDk
namespace Go.Proofs.YtnppmcgmmdcpiaaGreatDoor
open Go.Eng
set_option maxRecDepth 20000
set_option maxHeartbeats 1000000 in
theorem dwords_c {sl : SV} {ws : List (List UInt8)} {own : List Ent} {ro : Addr → Option Value} {post : Value → H → Prop} {T : Nat} (hT : shE 4 T 20 ∈ own) (hTab : HasTab ro) (hN : HasNum ro) (hr : RdSl ⟨own, ro⟩ sl (strs ws)) (hw : ∀ w ∈ ws, w.length ≤ 1000000) (hl : ws.length ≤ 1000000)
    (h0 : wordsV ws = none → post (.tuple (List.toArray [.slice none 0 0, .bool false])) ⟨own, ro⟩)
    (h1 : ∀ vs s ro', wordsV ws = some vs → (∀ a v, ro a = some v → ro' a = some v) → RdSl ⟨[], ro'⟩ s (ints (natI vs)) → s.len ≤ s.cap → post (.tuple (List.toArray [.slice s.a s.len s.cap, .bool true])) ⟨own, ro'⟩) :
    SemCall Tryz.prog 75 (List.toArray [.slice sl.a sl.len sl.cap]) ⟨own, ro⟩ post := by
  refine SemCall.vret (SemCall.wfp (f75_call _ _ _ ?_))
  have hlen := hr.len
  simp only [strs, List.length_map] at hlen
  have gph : Gh ⟨own, ro⟩ ⟨own ++ [⟨none, [], 0⟩], ro⟩ := by
    have := Gh.phantom own [] ro 0
    rw [List.append_nil] at this
    exact this
  refine ⟨fun x h => ∃ vs e, h = (⟨own ++ [e], ro⟩ : H) ∧ OwnsSl 1 x e (ints (natI vs)) ∧ wordsV ws = some vs,
    ⟨fun n x i h => ∃ (k : Nat) (vs : List Nat) (e : Ent), i = (k : Int) ∧ k ≤ ws.length ∧ n = ws.length - k ∧ h = (⟨own ++ [e], ro⟩ : H) ∧ OwnsSl 1 x e (ints (natI vs)) ∧ wordsV (ws.take k) = some vs,
      ⟨_, ⟨_, gph, 0, [], ⟨none, [], 0⟩, rfl, Nat.zero_le _, rfl, rfl, OwnsSl.nil 1, rfl⟩⟩, ?_⟩, ?_⟩
  · rintro n _ x i h ⟨k, vs, e, rfl, hk, rfl, rfl, ho, hv⟩
    refine VIf_dec (fun hi => ?_) (fun hi => gi ⟨vs, e, rfl, ho, by rwa [List.take_of_length_le (by omega)] at hv⟩)
    have hkl : k < ws.length := by omega
    have hwk := hw ws[k] (List.getElem_mem _)
    have hol := ho.sl_len
    have hvl := wordsV_len hv
    rw [List.length_take] at hvl
    simp only [ints_length, natI, List.length_map] at hol
    obtain ⟨b, hb⟩ := hr.addr (by simp [strs]; omega)
    refine ⟨b, hb, by omega, by omega, bs ws[k], ?_, ?_⟩
    · have := (hr.mono (h2 := ⟨own ++ [e], ro⟩) (fun e he => by simp [he]) (fun _ _ h => h)).get hb (strs_get (List.getElem?_eq_getElem hkl))
      simpa [Addr.add_zero'] using this
    have fin : ∀ (x13 : Int) (c : Bool) (h : H), (h = (⟨own ++ [e], ro⟩ : H) ∧ ((c = true ∧ wordV ws[k] = none) ∨ (c = false ∧ ∃ v : Nat, wordV ws[k] = some v ∧ x13 = (v : Int)))) →
        VIf c (VRet h (.tuple (List.toArray [.slice none 0 0, .bool false])) fun v h' => Wf h' → VRet h' v post) (H.new h [.int .i64 x13] fun r25 h26 => appVC Tryz.prog 22 (.slice x.a x.len x.cap) (.slice (some (Addr.mk r25 0 none)) 1 1) h26 fun x27 h28 => In64 ((k : Int) + 1) ∧ ∃ m4, m4 < ws.length - k ∧ ∃ h29, Gh h28 h29 ∧
          (fun n x i h => ∃ (k : Nat) (vs : List Nat) (e : Ent), i = (k : Int) ∧ k ≤ ws.length ∧ n = ws.length - k ∧ h = (⟨own ++ [e], ro⟩ : H) ∧ OwnsSl 1 x e (ints (natI vs)) ∧ wordsV (ws.take k) = some vs) m4 x27 ((k : Int) + 1) h29) := by
      rintro x13 c h ⟨rfl, hc⟩
      refine VIf_b (fun hc1 => ?_) (fun hc1 => ?_)
      · rcases hc with ⟨_, hn⟩ | ⟨hc2, _⟩
        · exact ret (fun _ => ⟨⟨own, ro⟩, Gh.drop (by simp), h0 (wordsV_none (List.getElem_mem _) hn)⟩)
        · rw [hc1] at hc2; cases hc2
      · rcases hc with ⟨hc2, _⟩ | ⟨_, v, hv1, rfl⟩
        · rw [hc1] at hc2; cases hc2
        refine app_row grows_ints (vs := [.int .i64 (v : Int)]) rfl ⟨rfl, trivial⟩ own e [] (by simp) ho (by omega) (fun s' e' o' _ => ⟨⟨by omega, by omega⟩, ws.length - (k + 1), by omega, gi ⟨k + 1, vs ++ [v], e', by omega, by omega, rfl, rfl, by rw [natI_snoc]; exact o', ?_⟩⟩)
        rw [List.take_add_one, List.getElem?_eq_getElem hkl]
        exact wordsV_snoc _ _ hv hv1
    have hTe : shE 4 T 20 ∈ own ++ [e] := by simp [hT]
    refine atoi_c hwk hN (fun v hav => ⟨v, none, rfl, ?_⟩) (fun y te pe hno => ⟨y, some (te, pe), rfl, ?_⟩)
    · have hbd := Lib.atoiAll_bounds hav
      refine ⟨fun c h => h = (⟨own ++ [e], ro⟩ : H) ∧ ((c = true ∧ wordV ws[k] = none) ∨ (c = false ∧ ∃ u : Nat, wordV ws[k] = some u ∧ v = (u : Int))), VIf_nnil (VIf_dec (fun hneg => gi ⟨rfl, .inl ⟨rfl, wordV_none ?_⟩⟩) (fun hp => VIf_dec (fun h7 => gi ⟨rfl, .inl ⟨rfl, wordV_none ?_⟩⟩) (fun h7 => ?_))), fun _ c h hc => fin v c h hc⟩
      · rintro ⟨_, u, hu⟩
        have := atoi_dec hu
        rw [hav] at this
        have := Lib.NumEnd.ok.inj this
        omega
      · rintro ⟨h8, _⟩
        rw [bs_size] at h7
        omega
      · rw [bs_size] at h7
        refine itoa_c (by omega) (by omega) hTe hTab ⟨_, rfl, gi ⟨rfl, ?_⟩⟩
        rw [show (ByteArray.mk (Lib.itoa v).toArray) = bs (Lib.decDigits v.toNat) by rw [itoa_nn (by omega)]; rfl, bs_beq]
        by_cases he : Lib.decDigits v.toNat = ws[k]
        · right
          refine ⟨by rw [decide_eq_true he]; rfl, v.toNat, wordV_iff.2 ⟨by omega, by omega, he.symm⟩, by omega⟩
        · left
          refine ⟨by rw [decide_eq_false he]; rfl, wordV_none ?_⟩
          rintro ⟨_, u, hu⟩
          have := atoi_dec hu
          rw [hav] at this
          have hvu := Lib.NumEnd.ok.inj this
          subst hvu
          rw [Int.toNat_natCast] at he
          exact he hu.2.symm
    · refine ⟨fun c h => h = (⟨own ++ [e], ro⟩ : H) ∧ ((c = true ∧ wordV ws[k] = none) ∨ (c = false ∧ ∃ u : Nat, wordV ws[k] = some u ∧ y = (u : Int))), ⟨rfl, VIf_b (fun _ => gi ⟨rfl, .inl ⟨rfl, wordV_none ?_⟩⟩) (fun h => by cases h)⟩, fun _ c h hc => fin y c h hc⟩
      rintro ⟨_, u, hu⟩
      exact hno _ (atoi_dec hu)
  · rintro _ x h ⟨vs, e, rfl, ho, hv⟩
    refine ret (fun hwf => ?_)
    have hf : ∀ a v, ro a = some v → e.id ≠ some a.block := fun a v h => hwf.ap a v h e (by simp)
    have g := Gh.freeze own [] ro e hf
    rw [List.append_nil] at g
    exact ⟨_, g, h1 vs x _ hv (frozen_mono hf) (RdSl.frozen ho) ho.cap_le⟩
end Go.Proofs.YtnppmcgmmdcpiaaGreatDoor
