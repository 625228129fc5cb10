
import Derived.Test.YtnppmcgmmdcpiaaGreatDoorDw
namespace Go.Proofs.YtnppmcgmmdcpiaaGreatDoor
open Go.Eng
set_option maxRecDepth 20000
theorem natI_headD {vs : List Nat} (h : vs ≠ []) : ∃ v us, vs = v :: us := by cases vs with | nil => exact absurd rfl h | cons v us => exact ⟨v, us, rfl⟩
theorem dask_c {rd : Nat} {s : BkS} {x : Bo} {vs : List Nat} {sl : SV} {own : List Ent} {ro : Addr → Option Value} {post : Value → H → Prop} {T : Nat} (A C : List Ent) (hown : own = A ++ (boL s ++ C)) (hT : shE 4 T 20 ∈ A ++ C) (hd : bxE rd (.pointer (some (Addr.mk s.r 0 none))) ∈ A ++ C)
    (hG : HasErrT ro) (hTab : HasTab ro) (h : BOO s x ro) (hw : RdSl ⟨[], ro⟩ sl (ints (natI vs))) (hcap : sl.len ≤ sl.cap) (h3 : vs.length = 3)
    (hk : ∀ s' ro', (∀ a v, ro a = some v → ro' a = some v) → BOO s' (bput x false ((vs.headD 0 : Nat) : Int) (natI vs.tail)) ro' → s'.r = s.r → post (.string (bs (codeS (bcode x false ((vs.headD 0 : Nat) : Int) (natI vs.tail))))) ⟨A ++ (boL s' ++ C), ro'⟩) :
    SemCall Tryz.prog 70 (List.toArray [.pointer (some (Addr.mk rd 0 none)), .slice sl.a sl.len sl.cap]) ⟨own, ro⟩ post := by
  subst hown
  refine f70_call _ _ _ post ?_
  obtain ⟨v, us, rfl⟩ := natI_headD (vs := vs) (fun h => by rw [h] at h3; cases h3)
  have hl := hw.len
  simp only [ints_length, natI, List.length_map, h3] at hl
  obtain ⟨b, hb⟩ := hw.addr (by simp [natI, ints])
  refine ⟨_, rfl, some (Addr.mk s.r 0 none), ?_, b, hb, by omega, by omega, (v : Int), ?_, by omega, by omega, ?_⟩
  · simp only [add_mk', Nat.zero_add, Nat.add_zero]
    exact rd_bx (by simp only [List.mem_append] at hd ⊢; rcases hd with h | h <;> simp [h])
  · exact (hw.ro (own := A ++ (boL s ++ C))).rdi hb (i := 0) (x := (v : Int)) rfl
  refine ask_c (t := (v : Int)) (want := natI us) (sw := ⟨if sl.cap = (1 : Int).toNat then sl.a else Option.map (fun z => Addr.add z ((1 : Int).toNat * 1)) sl.a, sl.len - (1 : Int).toNat, sl.cap - (1 : Int).toNat⟩) A C rfl hT hTab h (rdSl_tail (vs := us) hw hcap) (fun s' ro' m h' hr => ⟨_, rfl, dtold_c (hG.up m) ⟨_, rfl, ret (hk s' ro' m h' hr)⟩⟩)
theorem dback_c {rd : Nat} {s : BkS} {x : Bo} {vs : List Nat} {sl : SV} {own : List Ent} {ro : Addr → Option Value} {post : Value → H → Prop} {T : Nat} (A C : List Ent) (hown : own = A ++ (boL s ++ C)) (hT : shE 4 T 20 ∈ A ++ C) (hd : bxE rd (.pointer (some (Addr.mk s.r 0 none))) ∈ A ++ C)
    (hG : HasErrT ro) (hTab : HasTab ro) (h : BOO s x ro) (hw : RdSl ⟨[], ro⟩ sl (ints (natI vs))) (hcap : sl.len ≤ sl.cap) (h3 : vs.length = 3)
    (hk : ∀ s' ro', (∀ a v, ro a = some v → ro' a = some v) → BOO s' (bput x true ((vs.headD 0 : Nat) : Int) (natI vs.tail)) ro' → s'.r = s.r → post (.string (bs (codeS (bcode x true ((vs.headD 0 : Nat) : Int) (natI vs.tail))))) ⟨A ++ (boL s' ++ C), ro'⟩) :
    SemCall Tryz.prog 71 (List.toArray [.pointer (some (Addr.mk rd 0 none)), .slice sl.a sl.len sl.cap]) ⟨own, ro⟩ post := by
  subst hown
  refine f71_call _ _ _ post ?_
  obtain ⟨v, us, rfl⟩ := natI_headD (vs := vs) (fun h => by rw [h] at h3; cases h3)
  have hl := hw.len
  simp only [ints_length, natI, List.length_map, h3] at hl
  obtain ⟨b, hb⟩ := hw.addr (by simp [natI, ints])
  refine ⟨_, rfl, some (Addr.mk s.r 0 none), ?_, b, hb, by omega, by omega, (v : Int), ?_, by omega, by omega, ?_⟩
  · simp only [add_mk', Nat.zero_add, Nat.add_zero]
    exact rd_bx (by simp only [List.mem_append] at hd ⊢; rcases hd with h | h <;> simp [h])
  · exact (hw.ro (own := A ++ (boL s ++ C))).rdi hb (i := 0) (x := (v : Int)) rfl
  refine back_c (t := (v : Int)) (want := natI us) (sw := ⟨if sl.cap = (1 : Int).toNat then sl.a else Option.map (fun z => Addr.add z ((1 : Int).toNat * 1)) sl.a, sl.len - (1 : Int).toNat, sl.cap - (1 : Int).toNat⟩) A C rfl hT hTab h (rdSl_tail (vs := us) hw hcap) (fun s' ro' m h' hr => ⟨_, rfl, dtold_c (hG.up m) ⟨_, rfl, ret (hk s' ro' m h' hr)⟩⟩)
theorem dfree_c {rd : Nat} {s : BkS} {x : Bo} {sl : SV} {own : List Ent} {ro : Addr → Option Value} {post : Value → H → Prop} {T : Nat} (A C : List Ent) (hown : own = A ++ (boL s ++ C)) (hT : shE 4 T 20 ∈ own) (hd : bxE rd (.pointer (some (Addr.mk s.r 0 none))) ∈ own)
    (hTab : HasTab ro) (h : BOO s x ro) (hx : ∀ n ∈ x.b.free, 0 ≤ n ∧ n ≤ 1000) (hn : x.b.free.length ≤ 3)
    (hk : ∀ ro', (∀ a v, ro a = some v → ro' a = some v) → post (.string (bs (listB sFree x.b.free))) ⟨own, ro'⟩) :
    SemCall Tryz.prog 72 (List.toArray [.pointer (some (Addr.mk rd 0 none)), .slice sl.a sl.len sl.cap]) ⟨own, ro⟩ post := by
  refine f72_call _ _ _ post ⟨_, rfl, some (Addr.mk s.r 0 none), ?_, ?_⟩
  · simp only [add_mk', Nat.zero_add, Nat.add_zero]
    exact rd_bx hd
  refine bank_ro h A C hown (fun sf' sc' sh' ro' m hb => ⟨sf', sc', sh', rfl, ?_⟩)
  exact dlist_c (s := sFree) hT (hTab.up m) hb.f.ro hx (by decide) (by omega) ⟨_, rfl, ret (hk ro' m)⟩
theorem drow_c {rd : Nat} {s : BkS} {x : Bo} {sl : SV} {own : List Ent} {ro : Addr → Option Value} {post : Value → H → Prop} {T : Nat} (A C : List Ent) (hown : own = A ++ (boL s ++ C)) (hT : shE 4 T 20 ∈ own) (hd : bxE rd (.pointer (some (Addr.mk s.r 0 none))) ∈ own)
    (hTab : HasTab ro) (h : BOO s x ro) (hDI : DI x)
    (hk : ∀ ro', (∀ a v, ro a = some v → ro' a = some v) → post (.string (bs (listB sRow (natI ((brow x.b).getD []))))) ⟨own, ro'⟩) :
    SemCall Tryz.prog 73 (List.toArray [.pointer (some (Addr.mk rd 0 none)), .slice sl.a sl.len sl.cap]) ⟨own, ro⟩ post := by
  refine f73_call _ _ _ post ⟨_, rfl, some (Addr.mk s.r 0 none), ?_, ?_⟩
  · simp only [add_mk', Nat.zero_add, Nat.add_zero]
    exact rd_bx hd
  refine bank_ro h A C hown (fun sf' sc' sh' ro' m hb => ⟨sf', sc', sh', rfl, ?_⟩)
  have hrw := (BOk.row hDI.ok).1 hDI.rw
  refine bank_safe_c (hb.mono (by simp) (fun _ _ h => h)) (fun hc => absurd (bcheck_zero.2 hDI.ok) hc) (fun _ hr => absurd hr hrw) (fun r s' e' _ hr ho => ⟨true, s', none, rfl, VIf_nnil ?_⟩)
  have hre : (brow x.b).getD [] = r := by rw [hr]; rfl
  rw [hre] at hk
  have h1 := hDI.rows
  have h2 := hDI.rowl
  rw [hre] at h1 h2
  exact dlist_c (T := T) (s := sRow) (xs := natI r) (by simp [hT]) (hTab.up m) (RdSl.of_own (e := e') (by simp) ho) h1 (by decide) (by show (r.map _).length ≤ 1000; omega) ⟨_, rfl, ⟨⟨own, ro'⟩, Gh.drop (by simp), hk ro' m⟩⟩
end Go.Proofs.YtnppmcgmmdcpiaaGreatDoor
