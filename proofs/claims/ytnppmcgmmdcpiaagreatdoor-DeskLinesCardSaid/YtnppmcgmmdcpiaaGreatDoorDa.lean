
import Derived.Test.YtnppmcgmmdcpiaaGreatDoorDg
namespace Go.Proofs.YtnppmcgmmdcpiaaGreatDoor
open Go.Eng
set_option maxRecDepth 20000
theorem dE_rd' {r : Nat} {sf sc sh : SV} {l : List UInt8} {n : Int} {own : List Ent} {ro : Addr → Option Value} (h : dE r sf sc sh l n ∈ own) (i : Nat) {v : Value} (hv : (dE r sf sc sh l n).cells[i]? = some v) : H.rd ⟨own, ro⟩ (Addr.add (Addr.mk r 0 none) i) v := by
  rw [add_mk', Nat.zero_add]; exact dE_rd h i hv
theorem dE_rd0 {r : Nat} {sf sc sh : SV} {l : List UInt8} {n : Int} {own : List Ent} {ro : Addr → Option Value} (h : dE r sf sc sh l n ∈ own) (i : Nat) {v : Value} (hv : (dE r sf sc sh l n).cells[i]? = some v) : H.rd ⟨own, ro⟩ (Addr.add (Addr.add (Addr.mk r 0 none) i) 0) v := by
  rw [add_mk', add_mk', Nat.zero_add]; exact dE_rd h i hv
theorem dE_rd00 {r : Nat} {sf sc sh : SV} {l : List UInt8} {n : Int} {own : List Ent} {ro : Addr → Option Value} (h : dE r sf sc sh l n ∈ own) (i : Nat) {v : Value} (hv : (dE r sf sc sh l n).cells[i]? = some v) : H.rd ⟨own, ro⟩ (Addr.add (Addr.add (Addr.mk r 0 none) 0) i) v := by
  rw [add_mk', add_mk', Nat.zero_add]; simpa using dE_rd h i hv
theorem dE_rd000 {r : Nat} {sf sc sh : SV} {l : List UInt8} {n : Int} {own : List Ent} {ro : Addr → Option Value} (h : dE r sf sc sh l n ∈ own) (i : Nat) {v : Value} (hv : (dE r sf sc sh l n).cells[i]? = some v) : H.rd ⟨own, ro⟩ (Addr.add (Addr.add (Addr.add (Addr.mk r 0 none) 0) 0) i) v := by
  rw [add_mk', add_mk', add_mk', Nat.zero_add]; simpa using dE_rd h i hv
def aL (own : List Ent) (r1 r3 : Nat) (sf sc sh : SV) (x : Bo) (X : List Ent) : List Ent := own ++ [dE r1 sf sc sh x.l (x.n : Int)] ++ [dE r3 nilV nilV nilV [] 0] ++ X
theorem aL_1 {own X : List Ent} {r1 r3 : Nat} {sf sc sh : SV} {x : Bo} : dE r1 sf sc sh x.l (x.n : Int) ∈ aL own r1 r3 sf sc sh x X := by simp [aL]
theorem aL_app {own X Y : List Ent} {r1 r3 : Nat} {sf sc sh : SV} {x : Bo} : aL own r1 r3 sf sc sh x X ++ Y = aL own r1 r3 sf sc sh x (X ++ Y) := by simp [aL]
theorem a_fin {own X : List Ent} {r1 r3 : Nat} {sf sc sh : SV} {x : Bo} {ro2 : Addr → Option Value} {post : Value → H → Prop} (yf yc yh : SV) (yl : List UInt8) (yn : Int) (str : ByteArray) (hp : post (.tuple (List.toArray [dV yf yc yh yl yn, .string str])) ⟨own, ro2⟩) :
    ([Value.slice yf.a yf.len yf.cap, .slice yc.a yc.len yc.cap, .slice yh.a yh.len yh.cap, .string (bs yl), .int .i64 yn]).length = 5 ∧ (Program.underlying Tryz.prog 39).isSome = true ∧
    H.wr ⟨aL own r1 r3 sf sc sh x X, ro2⟩ (Addr.mk r3 0 none) [.slice yf.a yf.len yf.cap, .slice yc.a yc.len yc.cap, .slice yh.a yh.len yh.cap, .string (bs yl), .int .i64 yn] fun h26 =>
        ∃ x27 : SV, H.rd h26 (Addr.add (Addr.mk r3 0 none) 0) (.slice x27.a x27.len x27.cap) ∧ ∃ x28 : SV, H.rd h26 (Addr.add (Addr.mk r3 0 none) 1) (.slice x28.a x28.len x28.cap) ∧ ∃ x29 : SV, H.rd h26 (Addr.add (Addr.mk r3 0 none) 2) (.slice x29.a x29.len x29.cap) ∧
        ∃ x30 : ByteArray, H.rd h26 (Addr.add (Addr.mk r3 0 none) 3) (.string x30) ∧ ∃ x31 : Int, H.rd h26 (Addr.add (Addr.mk r3 0 none) 4) (.int .i64 x31) ∧
        VRet h26 (.tuple (List.toArray [.agg (List.toArray [.slice x27.a x27.len x27.cap, .slice x28.a x28.len x28.cap, .slice x29.a x29.len x29.cap, .string x30, .int .i64 x31]), .string str])) post := by
  refine ⟨rfl, rfl, wro (own ++ [dE r1 sf sc sh x.l (x.n : Int)]) (dE r3 nilV nilV nilV [] 0) X ⟨rfl, rfl, rfl, rfl, rfl, trivial⟩ (by simp [aL]) rfl (by simp [dE]) ?_⟩
  have hm3 : dE r3 yf yc yh yl yn ∈ own ++ [dE r1 sf sc sh x.l (x.n : Int)] ++ dE r3 yf yc yh yl yn :: X := by simp
  exact ⟨yf, dE_rd' hm3 0 rfl, yc, dE_rd' hm3 1 rfl, yh, dE_rd' hm3 2 rfl, bs yl, dE_rd' hm3 3 rfl, yn, dE_rd' hm3 4 rfl, ⟨⟨own, ro2⟩, Gh.drop (by simp), hp⟩⟩
theorem dE_new {own : List Ent} {ro : Addr → Option Value} {r : Nat} {yf yc yh : SV} {yl : List UInt8} {yn : Int} {K : H → Prop} (hK : K ⟨own ++ [dE r yf yc yh yl yn], ro⟩) :
    H.wr ⟨own ++ [⟨some r, [Value.slice none 0 0, .slice none 0 0, .slice none 0 0, .string ByteArray.empty, .int .i64 0], List.length [Value.slice none 0 0, .slice none 0 0, .slice none 0 0, .string ByteArray.empty, .int .i64 0]⟩], ro⟩ (Addr.mk r 0 none) [.slice yf.a yf.len yf.cap, .slice yc.a yc.len yc.cap, .slice yh.a yh.len yh.cap, .string (bs yl), .int .i64 yn] K :=
  wro own (dE r nilV nilV nilV [] 0) [] ⟨rfl, rfl, rfl, rfl, rfl, trivial⟩ rfl rfl (by simp [dE]) hK
theorem strs_rd0 {h : H} {s : SV} {w0 : List UInt8} {wt : List (List UInt8)} (r : RdSl h s (strs (w0 :: wt))) : ∃ b, s.a = some b ∧ (0 : Int) < ((s.len : Nat) : Int) ∧ H.rd h (Addr.add (Addr.add b ((0 : Int).toNat * 1)) 0) (.string (bs w0)) := by
  have hl := r.len
  simp only [strs, List.length_map, List.length_cons] at hl
  obtain ⟨b, hb⟩ := r.addr (by simp [strs])
  refine ⟨b, hb, by omega, ?_⟩
  have := r.get hb (i := 0) (v := .string (bs w0)) rfl
  simpa [Addr.add_zero'] using this
theorem ddo_ask {x : Bo} {w : List UInt8} {vs : List Nat} (h : w = sAsk ∨ w = sBack) (h3 : vs.length = 3) : ddo x w vs = (bput x (decide (w = sBack)) ((vs.headD 0 : Nat) : Int) (natI vs.tail), codeS (bcode x (decide (w = sBack)) ((vs.headD 0 : Nat) : Int) (natI vs.tail))) := by
  unfold ddo
  rcases h with rfl | rfl
  · rw [if_pos ⟨rfl, h3⟩]; rfl
  · rw [if_neg (by rintro ⟨h, _⟩; exact absurd h (by decide)), if_pos ⟨rfl, h3⟩]; rfl
theorem ddo_free {x : Bo} {w : List UInt8} {vs : List Nat} (h : w = sFree) (h3 : vs.length = 0) : ddo x w vs = (x, listB sFree x.b.free) := by
  subst h
  unfold ddo
  rw [if_neg (by rintro ⟨h, _⟩; exact absurd h (by decide)), if_neg (by rintro ⟨h, _⟩; exact absurd h (by decide)), if_pos ⟨rfl, h3⟩]
theorem ddo_row {x : Bo} {w : List UInt8} {vs : List Nat} (h : w = sRow) (h3 : vs.length = 0) : ddo x w vs = (x, listB sRow (natI ((brow x.b).getD []))) := by
  subst h
  unfold ddo
  rw [if_neg (by rintro ⟨h, _⟩; exact absurd h (by decide)), if_neg (by rintro ⟨h, _⟩; exact absurd h (by decide)), if_neg (by rintro ⟨h, _⟩; exact absurd h (by decide)), if_pos ⟨rfl, h3⟩]
  rfl
theorem ddo_crash {x : Bo} {w : List UInt8} {n : Nat} (h : w = sCrash) : ddo x w [n] = match bopen ⟨bk0, [], 0⟩ (x.l.take n) with | .inl e => (x, codeS e.2) | .inr y => (y, listB sFound [(y.n : Int)]) := by
  subst h
  unfold ddo
  rw [if_neg (by rintro ⟨h, _⟩; exact absurd h (by decide)), if_neg (by rintro ⟨h, _⟩; exact absurd h (by decide)), if_neg (by rintro ⟨h, _⟩; exact absurd h (by decide)), if_neg (by rintro ⟨h, _⟩; exact absurd h (by decide)), if_pos ⟨rfl, rfl⟩]
  rfl
theorem ddo_bad {x : Bo} {w : List UInt8} {vs : List Nat} (h1 : ¬ ((w = sAsk ∨ w = sBack) ∧ vs.length = 3)) (h2 : ¬ (w = sFree ∧ vs.length = 0)) (h3 : ¬ (w = sRow ∧ vs.length = 0)) (h4 : ¬ (w = sCrash ∧ vs.length = 1)) : ddo x w vs = (x, sBad) := by
  unfold ddo
  rw [if_neg (fun h => h1 ⟨.inl h.1, h.2⟩), if_neg (fun h => h1 ⟨.inr h.1, h.2⟩), if_neg h2, if_neg h3, if_neg h4]
end Go.Proofs.YtnppmcgmmdcpiaaGreatDoor
