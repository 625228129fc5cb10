
import Derived.Test.YtnppmcgmmdcpiaaGreatDoorDa
namespace Go.Proofs.YtnppmcgmmdcpiaaGreatDoor
open Go.Eng
set_option maxRecDepth 20000
/-- what an answer hands back -/
def aK (x : Bo) (l : List UInt8) (own : List Ent) (ro : Addr → Option Value) (post : Value → H → Prop) : Prop :=
  ∀ yf yc yh ro', (∀ a v, ro a = some v → ro' a = some v) → BkRd ⟨[], ro'⟩ yf yc yh (dans x l).1.b → post (.tuple (List.toArray [dV yf yc yh (dans x l).1.l ((dans x l).1.n : Int), .string (bs (dans x l).2)])) ⟨own, ro'⟩
theorem aK.same {x : Bo} {l : List UInt8} {own : List Ent} {ro ro' : Addr → Option Value} {post : Value → H → Prop} (h : aK x l own ro post) {sf sc sh : SV} (hx : BkRd ⟨[], ro⟩ sf sc sh x.b) (m : ∀ a v, ro a = some v → ro' a = some v) {s : List UInt8} (he : dans x l = (x, s)) :
    post (.tuple (List.toArray [dV sf sc sh x.l (x.n : Int), .string (bs s)])) ⟨own, ro'⟩ := by
  have := h sf sc sh ro' m (by rw [he]; exact hx.mono (by simp) m)
  rw [he] at this
  exact this
set_option maxHeartbeats 1000000 in
theorem a_J3 {x : Bo} {sf sc sh : SV} {l w0 : List UInt8} {n : Nat} {r1 r3 : Nat} {own X : List Ent} {ro : Addr → Option Value} {post : Value → H → Prop} (hx : BkRd ⟨[], ro⟩ sf sc sh x.b) (hDI : DI x) (hk : aK x l own ro post) (he : dans x l = ddo x w0 [n]) (h0 : w0 = sCrash) :
    f47_J3 post r1 r3 ((min x.l.length n : Nat) : Int) ⟨aL own r1 r3 sf sc sh x X, ro⟩ := by
  rw [ddo_crash h0] at he
  have hm := aL_1 (own := own) (X := X) (r1 := r1) (r3 := r3) (sf := sf) (sc := sc) (sh := sh) (x := x)
  have hle := hDI.br.le
  unfold f47_J3
  refine ⟨bs x.l, dE_rd0 hm 3 rfl, by omega, by rw [bs_size]; omega, ?_⟩
  rw [Int.toNat_natCast, bs_ext _ _ (by omega), take_min]
  have hlen : (x.l.take n).length ≤ 2000 := by rw [List.length_take]; omega
  refine rfirst_c (fun gf gc gh ro1 m1 hb1 => ⟨OwnExt.same, gf, gc, gh, rfl, ?_⟩)
  refine dopen_c hb1 (fun hc => absurd (bcheck_zero.2 bk0_ok) hc) (fun _ hr => absurd hr (by rw [bk0_row]; simp)) (fun _ _ hl => by omega) (fun _ _ _ at' e ro2 hbo he0 m2 => ?_) (fun _ _ _ y yf yc yh ro2 hbo m2 hy hyi => ?_)
  · refine ⟨OwnExt.same, nilV, nilV, nilV, bs [], 0, at', e, rfl, ?_⟩
    intro r173 _
    refine ⟨rfl, rfl, dE_new (VIf_ne (fun _ => ?_) (fun h => absurd h he0))⟩
    rw [aL_app]
    have hm := aL_1 (own := own) (X := X ++ [dE r173 nilV nilV nilV [] 0]) (r1 := r1) (r3 := r3) (sf := sf) (sc := sc) (sh := sh) (x := x)
    refine ⟨sf, dE_rd' hm 0 rfl, sc, dE_rd' hm 1 rfl, sh, dE_rd' hm 2 rfl, bs x.l, dE_rd' hm 3 rfl, _, dE_rd' hm 4 rfl, dcalled_c ⟨OwnExt.same, _, rfl, ?_⟩⟩
    refine a_fin sf sc sh x.l (x.n : Int) _ (hk.same hx (fun a v h => m2 a v (m1 a v h)) ?_)
    rw [he, bopen_len, hbo]
  · have hy' := DI.opens _ _ y _ DI.first hbo
    have hn := hy'.br.n60
    refine ⟨OwnExt.same, yf, yc, yh, bs y.l, (y.n : Int), (y.n : Int), 0, rfl, ?_⟩
    intro r173 _
    refine ⟨rfl, rfl, dE_new (VIf_ne (fun h => absurd rfl h) (fun _ => ?_))⟩
    rw [aL_app]
    have hm : dE r173 yf yc yh y.l (y.n : Int) ∈ aL own r1 r3 sf sc sh x (X ++ [dE r173 yf yc yh y.l (y.n : Int)]) := by simp [aL]
    refine ⟨yf, dE_rd' hm 0 rfl, yc, dE_rd' hm 1 rfl, yh, dE_rd' hm 2 rfl, bs y.l, dE_rd' hm 3 rfl, _, dE_rd' hm 4 rfl, digits_c (by omega) (by omega) ⟨OwnExt.same, _, rfl, ?_⟩⟩
    have hd := dec_short (n := (y.n : Int).toNat) (m := 4) (by omega) (by decide)
    have e1 : ByteArray.mk (List.toArray [(102 : UInt8), (111 : UInt8), (117 : UInt8), (110 : UInt8), (100 : UInt8), (32 : UInt8)]) = bs (sFound ++ [32]) := rfl
    rw [e1, bs_app]
    refine ⟨by rw [bs_size, bs_size, show (sFound ++ [(32 : UInt8)]).length = 6 from rfl]; omega, a_fin yf yc yh y.l (y.n : Int) _ ?_⟩
    have hbo' : bopen ⟨bk0, [], 0⟩ (x.l.take n) = .inr y := hbo
    rw [hbo'] at he
    have := hk yf yc yh ro2 (fun a v h => m2 a v (m1 a v h)) (by rw [he]; exact hy)
    rw [he] at this
    have e2 : listB sFound [(y.n : Int)] = sFound ++ [32] ++ Lib.decDigits (y.n : Int).toNat := by simp [listB]
    dsimp only at this
    rw [e2] at this
    exact this
end Go.Proofs.YtnppmcgmmdcpiaaGreatDoor
