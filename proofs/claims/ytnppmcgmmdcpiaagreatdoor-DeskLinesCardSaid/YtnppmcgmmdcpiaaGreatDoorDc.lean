
import Derived.Test.YtnppmcgmmdcpiaaGreatDoorDb
namespace Go.Proofs.YtnppmcgmmdcpiaaGreatDoor
open Go.Eng
set_option maxRecDepth 20000
theorem toList_eq {l m : List UInt8} : (ByteArray.toList (bs l) == ByteArray.toList (bs m)) = decide (l = m) := bs_beq l m
theorem lenI {n k : Nat} : (((n : Nat) : Int) == (k : Int)) = decide (n = k) := by
  by_cases h : n = k
  · subst h; simp
  · have : ((n : Nat) : Int) ≠ (k : Int) := by omega
    simp [h, this]
set_option maxHeartbeats 1000000 in
theorem a_J8 {x : Bo} {sf sc sh s7 sl : SV} {e7 : Ent} {l w0 : List UInt8} {wt : List (List UInt8)} {vs : List Nat} {r1 r3 : Nat} {own : List Ent} {ro : Addr → Option Value} {post : Value → H → Prop} (hx : BkRd ⟨[], ro⟩ sf sc sh x.b) (hDI : DI x) (hk : aK x l own ro post)
    (o7 : OwnsSl 1 s7 e7 (strs (w0 :: wt))) (rl0 : RdSl ⟨[], ro⟩ sl (ints (natI vs))) (hcap : sl.len ≤ sl.cap) (he : dans x l = ddo x w0 vs) :
    f47_J8 post r1 r3 s7 sl ⟨aL own r1 r3 sf sc sh x [e7], ro⟩ := by
  have hm := aL_1 (own := own) (X := [e7]) (r1 := r1) (r3 := r3) (sf := sf) (sc := sc) (sh := sh) (x := x)
  have r7 : RdSl ⟨aL own r1 r3 sf sc sh x [e7], ro⟩ s7 (strs (w0 :: wt)) := RdSl.of_own (by simp [aL]) o7
  have rl : RdSl ⟨aL own r1 r3 sf sc sh x [e7], ro⟩ sl (ints (natI vs)) := rl0.ro
  obtain ⟨b, hb, hb0, rd0⟩ := strs_rd0 r7
  have hll := rl.len
  simp only [ints_length, natI, List.length_map] at hll
  have eA : ByteArray.mk (List.toArray [(97 : UInt8), (115 : UInt8), (107 : UInt8)]) = bs sAsk := rfl
  have eB : ByteArray.mk (List.toArray [(98 : UInt8), (97 : UInt8), (99 : UInt8), (107 : UInt8)]) = bs sBack := rfl
  have eF : ByteArray.mk (List.toArray [(102 : UInt8), (114 : UInt8), (101 : UInt8), (101 : UInt8)]) = bs sFree := rfl
  have eR : ByteArray.mk (List.toArray [(114 : UInt8), (111 : UInt8), (119 : UInt8)]) = bs sRow := rfl
  have eC : ByteArray.mk (List.toArray [(99 : UInt8), (114 : UInt8), (97 : UInt8), (115 : UInt8), (104 : UInt8)]) = bs sCrash := rfl
  have l3 : (((sl.len : Nat) : Int) == 3) = decide (vs.length = 3) := by rw [hll]; exact lenI (k := 3)
  have l0 : (((sl.len : Nat) : Int) == 0) = decide (vs.length = 0) := by rw [hll]; exact lenI (k := 0)
  have l1 : (((sl.len : Nat) : Int) == 1) = decide (vs.length = 1) := by rw [hll]; exact lenI (k := 1)
  unfold f47_J8
  refine ⟨fun c h => c = decide ((w0 = sAsk ∨ w0 = sBack) ∧ vs.length = 3) ∧ h = (⟨aL own r1 r3 sf sc sh x [e7], ro⟩ : H), ⟨b, hb, by omega, hb0, bs w0, rd0, ?_⟩, ?_⟩
  · rw [eA, toList_eq, eB, l3]
    refine VIf_dec (fun h => gi ⟨by simp [h], rfl⟩) (fun h => ⟨b, hb, by omega, hb0, bs w0, rd0, ?_⟩)
    rw [toList_eq]
    exact VIf_dec (fun h2 => gi ⟨by simp [h2], rfl⟩) (fun h2 => gi ⟨by simp [h, h2], rfl⟩)
  rintro _ c _ ⟨rfl, rfl⟩
  unfold f47_J7
  refine VIf_dec (fun h => ?_) (fun h1 => ?_)
  · obtain ⟨hw, h3⟩ := h
    rw [ddo_ask hw h3] at he
    obtain ⟨v, us, rfl⟩ := natI_headD (vs := vs) (fun h => by rw [h] at h3; cases h3)
    simp only [List.length_cons] at h3 hll
    obtain ⟨b2, hb2⟩ := rl.addr (by simp [natI, ints])
    have rv : H.rd ⟨aL own r1 r3 sf sc sh x [e7], ro⟩ (Addr.add (Addr.add b2 ((0 : Int).toNat * 1)) 0) (.int .i64 (v : Int)) := rl.rdi hb2 (i := 0) rfl
    refine ⟨b, hb, by omega, hb0, b2, hb2, by omega, by omega, by omega, by omega, sf, dE_rd' hm 0 rfl, sc, dE_rd' hm 1 rfl, sh, dE_rd' hm 2 rfl, bs x.l, dE_rd' hm 3 rfl, _, dE_rd' hm 4 rfl, bs w0, rd0, (v : Int), rv, ?_⟩
    rw [eB, toList_eq]
    obtain ⟨sw2, hsw2⟩ : ∃ sw2 : SV, sw2 = ⟨if sl.cap = (1 : Int).toNat then sl.a else Option.map (fun z => Addr.add z ((1 : Int).toNat * 1)) sl.a, sl.len - (1 : Int).toNat, sl.cap - (1 : Int).toNat⟩ := ⟨_, rfl⟩
    have e1 : (if sl.cap = (1 : Int).toNat then sl.a else Option.map (fun z => Addr.add z ((1 : Int).toNat * 1)) sl.a) = sw2.a := by rw [hsw2]
    have e2 : sl.len - (1 : Int).toNat = sw2.len := by rw [hsw2]
    have e3 : sl.cap - (1 : Int).toNat = sw2.cap := by rw [hsw2]
    rw [e1, e2, e3]
    have hrt := rdSl_tail (vs := us) rl0 hcap
    rw [← hsw2] at hrt
    refine dput_c (x := x) (want := natI us) (decide (w0 = sBack)) hx hDI.inn.n60 hDI.inn.ll hrt (fun yf yc yh ro2 m2 rd2 => ?_)
    simp only [List.headD_cons, List.tail_cons] at he
    have hp := hk yf yc yh ro2 m2 (by rw [he]; exact rd2)
    rw [he] at hp
    refine ⟨OwnExt.same, yf, yc, yh, _, _, _, rfl, ?_⟩
    intro r75 _
    refine ⟨rfl, rfl, dE_new ?_⟩
    rw [aL_app]
    generalize bput x (decide (w0 = sBack)) (v : Int) (natI us) = y at hp rd2 he
    have hm2 : dE r75 yf yc yh y.l (y.n : Int) ∈ aL own r1 r3 sf sc sh x ([e7] ++ [dE r75 yf yc yh y.l (y.n : Int)]) := by simp [aL]
    refine ⟨yf, dE_rd' hm2 0 rfl, yc, dE_rd' hm2 1 rfl, yh, dE_rd' hm2 2 rfl, bs y.l, dE_rd' hm2 3 rfl, _, dE_rd' hm2 4 rfl, dcalled_c ⟨OwnExt.same, _, rfl, ?_⟩⟩
    exact a_fin yf yc yh y.l (y.n : Int) _ hp
  refine ⟨fun c h => c = decide (w0 = sFree ∧ vs.length = 0) ∧ h = (⟨aL own r1 r3 sf sc sh x [e7], ro⟩ : H), ⟨b, hb, by omega, hb0, bs w0, rd0, ?_⟩, ?_⟩
  · rw [eF, toList_eq, l0]
    exact VIf_dec (fun h => gi ⟨by simp [h], rfl⟩) (fun h => gi ⟨by simp [h], rfl⟩)
  rintro _ c _ ⟨rfl, rfl⟩
  unfold f47_J6
  refine VIf_dec (fun h => ?_) (fun h2 => ?_)
  · rw [ddo_free h.1 h.2] at he
    have hn := hDI.inn.f
    refine ⟨sf, dE_rd' hm 0 rfl, sc, dE_rd' hm 1 rfl, sh, dE_rd' hm 2 rfl, bs x.l, dE_rd' hm 3 rfl, _, dE_rd' hm 4 rfl, sf, dE_rd000 hm 0 rfl, ?_⟩
    rw [eF]
    exact dlisted_c hx.f.ro hDI.frees (by decide) (by omega) ⟨OwnExt.same, _, rfl, a_fin sf sc sh x.l (x.n : Int) _ (hk.same hx (fun _ _ h => h) he)⟩
  refine ⟨fun c h => c = decide (w0 = sRow ∧ vs.length = 0) ∧ h = (⟨aL own r1 r3 sf sc sh x [e7], ro⟩ : H), ⟨b, hb, by omega, hb0, bs w0, rd0, ?_⟩, ?_⟩
  · rw [eR, toList_eq, l0]
    exact VIf_dec (fun h => gi ⟨by simp [h], rfl⟩) (fun h => gi ⟨by simp [h], rfl⟩)
  rintro _ c _ ⟨rfl, rfl⟩
  unfold f47_J5
  refine VIf_dec (fun h => ?_) (fun h3 => ?_)
  · rw [ddo_row h.1 h.2] at he
    refine ⟨sf, dE_rd00 hm 0 rfl, sc, dE_rd00 hm 1 rfl, sh, dE_rd00 hm 2 rfl, ?_⟩
    have hrw := (BOk.row hDI.ok).1 hDI.rw
    refine ref4_safe_c hx hDI.ok (fun hr => absurd hr hrw) (fun r s' ro' m hr rr => ⟨s', true, rfl, sf, dE_rd' hm 0 rfl, sc, dE_rd' hm 1 rfl, sh, dE_rd' hm 2 rfl, bs x.l, dE_rd' hm 3 rfl, _, dE_rd' hm 4 rfl, ?_⟩)
    have hre : (brow x.b).getD [] = r := by rw [hr]; rfl
    have h1 := hDI.rows
    have h2 := hDI.rowl
    rw [hre] at h1 h2 he
    rw [eR]
    exact dlisted_c (xs := natI r) rr.ro h1 (by decide) (by show (r.map _).length ≤ 1000; omega) ⟨OwnExt.same, _, rfl, a_fin sf sc sh x.l (x.n : Int) _ (hk.same hx m he)⟩
  refine ⟨fun c h => c = decide (w0 = sCrash ∧ vs.length = 1) ∧ h = (⟨aL own r1 r3 sf sc sh x [e7], ro⟩ : H), ⟨b, hb, by omega, hb0, bs w0, rd0, ?_⟩, ?_⟩
  · rw [eC, toList_eq, l1]
    exact VIf_dec (fun h => gi ⟨by simp [h], rfl⟩) (fun h => gi ⟨by simp [h], rfl⟩)
  rintro _ c _ ⟨rfl, rfl⟩
  unfold f47_J4
  refine VIf_dec (fun h => ?_) (fun h4 => ?_)
  · obtain ⟨hw, h1'⟩ := h
    obtain ⟨n, rfl⟩ : ∃ n, vs = [n] := by
      match vs, h1' with
      | [n], _ => exact ⟨n, rfl⟩
    obtain ⟨b2, hb2⟩ := rl.addr (by simp [natI, ints])
    simp only [List.length_singleton] at hll
    refine ⟨b2, hb2, by omega, by omega, (n : Int), rl.rdi hb2 (i := 0) rfl, bs x.l, dE_rd0 hm 3 rfl, ?_⟩
    refine ⟨fun c h => c = ((min x.l.length n : Nat) : Int) ∧ h = (⟨aL own r1 r3 sf sc sh x [e7], ro⟩ : H), VIf_dec (fun h => ⟨bs x.l, dE_rd0 hm 3 rfl, gi ⟨?_, rfl⟩⟩) (fun h => gi ⟨?_, rfl⟩), ?_⟩
    · rw [bs_size] at h ⊢; omega
    · rw [bs_size] at h; omega
    rintro _ c _ ⟨rfl, rfl⟩
    exact a_J3 hx hDI hk he hw
  · rw [ddo_bad h1 h2 h3 h4] at he
    refine ⟨sf, dE_rd' hm 0 rfl, sc, dE_rd' hm 1 rfl, sh, dE_rd' hm 2 rfl, bs x.l, dE_rd' hm 3 rfl, _, dE_rd' hm 4 rfl, ?_⟩
    exact a_fin sf sc sh x.l (x.n : Int) _ (hk.same hx (fun _ _ h => h) he)
theorem aK.up {x : Bo} {l : List UInt8} {own : List Ent} {ro ro' : Addr → Option Value} {post : Value → H → Prop} (h : aK x l own ro post) (m : ∀ a v, ro a = some v → ro' a = some v) : aK x l own ro' post :=
  fun yf yc yh ro2 m2 => h yf yc yh ro2 (fun a v hv => m2 a v (m a v hv))
end Go.Proofs.YtnppmcgmmdcpiaaGreatDoor
