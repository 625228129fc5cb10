
import Derived.Test.YtnppmcgmmdcpiaaGreatDoorLa4
namespace Go.Proofs.YtnppmcgmmdcpiaaGreatDoor
open Go.Eng
set_option maxRecDepth 20000
theorem crash_all {x : Bo} (h : DI x) : dans x [99, 114, 97, 115, 104, 32, 57, 57, 57, 57, 57, 57, 57] = (x, listB sFound [(x.n : Int)]) := by
  have hle := h.br.le
  have hop : bopen ⟨bk0, [], 0⟩ x.l = .inr x := h.br.runs.opens
  have h9 : Lib.decDigits 9999999 = [57, 57, 57, 57, 57, 57, 57] := by simp [Lib.decDigits]
  have hw : wordV [57, 57, 57, 57, 57, 57, 57] = some 9999999 := wordV_iff.2 ⟨by decide, by decide, h9.symm⟩
  have hc : cutB 32 [99, 114, 97, 115, 104, 32, 57, 57, 57, 57, 57, 57, 57] = [sCrash, [57, 57, 57, 57, 57, 57, 57]] := by decide
  unfold dans
  rw [hc]
  simp only [List.tail_cons, List.headD_cons, wordsV, hw]
  rw [ddo_crash rfl, List.take_of_length_le (by omega), hop]
set_option maxHeartbeats 1000000 in
theorem topDesk_c {s : ByteArray} {ro : Addr → Option Value} {T : Nat} (hG : HasErrT ro) (hTab : HasTab ro) (hN : HasNum ro) (hM : HasMax ro) :
    SemCall Tryz.prog 10 #[.string s] ⟨[shE 4 T 20], ro⟩ (fun v _ => v = .bool true) := by
  rw [bs_of s]
  generalize s.data.toList = t
  refine f10_call _ _ _ ?_
  unfold f10_sem
  refine drun_c (t := sFree) (T := T) (by simp) hG hTab hN hM (fun ro1 m1 => ⟨_, rfl, free_fact ?_⟩)
  refine safe_pre (fun h hh => ?_) (fun hl hE h hh => ?_)
  · subst hh
    exact VIf_b (fun _ => ret rfl) (nomatch ·)
  subst hh
  unfold f10_J1
  refine VIf_b (nomatch ·) (fun _ => ?_)
  have hDI : DI (dend x0 t) := x0_DI.end'
  have hsh := dsess_short t.length x0 t (Nat.le_refl _) x0_DI
  have hen := dsess_ends t.length x0 t (Nat.le_refl _)
  have h1 := (dsess_more (s := sFree) hE (by decide)).1
  rw [ans_free] at h1
  have h2 := dsess_more (s := [99, 114, 97, 115, 104, 32, 57, 57, 57, 57, 57, 57, 57]) hE (by decide)
  rw [crash_all hDI] at h2
  have hE2 : Ends (t ++ ([99, 114, 97, 115, 104, 32, 57, 57, 57, 57, 57, 57, 57] ++ [10])) := by intro _; simp
  have h3 := (dsess_more (s := sFree) hE2 (by decide)).1
  rw [h2.2, ans_free, h2.1] at h3
  have hfo := listB_ok (s := sFound) (l := [((dend x0 t).n : Int)]) (by decide) (by have := hDI.br.n60; simp; omega)
  have hfr := listB_ok (s := sFree) (l := (dend x0 t).b.free) (by decide) hDI.frees
  have hf2 := hDI.inn.f
  rw [hf2] at hfr
  have hne : listB sFree (dend x0 t).b.free ++ [10] ≠ [] := by simp
  dsimp only at h1 h3
  generalize listB sFree (dend x0 t).b.free = q at h1 h3 hfr hne
  generalize hfd : listB sFound [((dend x0 t).n : Int)] = fd at h3 hfo
  have s4 : sFree.length = 4 := rfl
  have s5 : sFound.length = 5 := rfl
  rw [s4] at hfr
  rw [s5] at hfo
  simp only [List.length_singleton] at hfo
  have c5 : (sFree ++ [(10 : UInt8)]).length = 5 := rfl
  have c14 : (([99, 114, 97, 115, 104, 32, 57, 57, 57, 57, 57, 57, 57] : List UInt8) ++ [10]).length = 14 := rfl
  have e1 : ByteArray.mk (List.toArray [(102 : UInt8), (114 : UInt8), (101 : UInt8), (101 : UInt8), (10 : UInt8)]) = bs (sFree ++ [10]) := rfl
  have e2 : ByteArray.mk (List.toArray [(99 : UInt8), (114 : UInt8), (97 : UInt8), (115 : UInt8), (104 : UInt8), (32 : UInt8), (57 : UInt8), (57 : UInt8), (57 : UInt8), (57 : UInt8), (57 : UInt8), (57 : UInt8), (57 : UInt8), (10 : UInt8), (102 : UInt8), (114 : UInt8), (101 : UInt8), (101 : UInt8), (10 : UInt8)]) = bs (([99, 114, 97, 115, 104, 32, 57, 57, 57, 57, 57, 57, 57] ++ [10]) ++ (sFree ++ [10])) := rfl
  rw [e1, e2, bs_app, bs_app, bs_size, bs_size, bs_size]
  refine ⟨by rw [c5]; omega, ?_⟩
  refine drun_c (T := T) (by simp) (hG.up m1) (hTab.up m1) (hN.up m1) (hM.up m1) (fun ro2 m2 => ⟨_, rfl, ?_⟩)
  rw [drun_small (by rw [List.length_append, c5]; omega), h1]
  refine lastline_t hen hfr.1 (by simp only [List.length_append, List.length_cons, List.length_nil]; omega) ⟨_, rfl, ?_⟩
  refine ⟨by rw [List.length_append, c14, c5]; omega, ?_⟩
  refine drun_c (T := T) (by simp) ((hG.up m1).up m2) ((hTab.up m1).up m2) ((hN.up m1).up m2) ((hM.up m1).up m2) (fun ro3 m3 => ⟨_, rfl, ?_⟩)
  rw [drun_small (by rw [List.length_append, List.length_append, c14, c5]; omega), ← List.append_assoc, h3]
  refine lastline_t (p := dsess x0 t ++ (fd ++ [10])) (by intro _; simp) hfr.1 (by simp only [List.length_append, List.length_cons, List.length_nil]; omega) ⟨_, rfl, ?_⟩
  rw [bs_beq, decide_eq_true rfl, bs_size]
  refine ⟨fun c _ => c = true, ?_, fun _ c _ h => ret (by rw [h])⟩
  rw [VIf_true]
  exact gi (decide_eq_true (by rw [List.length_append]; simp only [List.length_singleton]; omega))
end Go.Proofs.YtnppmcgmmdcpiaaGreatDoor
