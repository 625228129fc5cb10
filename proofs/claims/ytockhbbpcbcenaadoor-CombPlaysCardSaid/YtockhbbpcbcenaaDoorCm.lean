import Derived.Test.YtockhbbpcbcenaaDoorCl
namespace Go.Proofs.YtockhbbpcbcenaaDoor
open Go.Eng
set_option maxRecDepth 20000
@[simp] theorem upd1_same (f : Nat → Int) (q : Nat) (v : Int) : upd1 f q v q = v := if_pos rfl
theorem upd1_ne {f : Nat → Int} {q p : Nat} {v : Int} (h : p ≠ q) : upd1 f q v p = f p := if_neg h
theorem upd1_cases {f : Nat → Int} {q : Nat} {v : Int} (p : Nat) : (p = q ∧ upd1 f q v p = v) ∨ (p ≠ q ∧ upd1 f q v p = f p) := by
  by_cases h : p = q
  · subst h; exact .inl ⟨rfl, upd1_same _ _ _⟩
  · exact .inr ⟨h, upd1_ne h⟩
/-- a hand begins -/
theorem CI.begin {c : CS} {i : Int} (h : CI c i) {q : Nat} (hq : q < 4) (hn : (q : Int) < c.n) (h0 : c.hL q = 0) {add : Int} (a0 : 0 ≤ add) (a1 : add ≤ 1000) : CI { c with hL := upd1 c.hL q 1, hA := upd1 c.hA q add, hN := upd1 c.hN q (c.D c.W q + 1) } (i + 1) := by
  have hb := h.mono (show i ≤ i + 1 by omega)
  refine { hb with ln := fun p hp => ?_, out := fun p hp hnp => ?_, k := fun p hp => ?_, nu := fun p hp hl => ?_, ask := fun p hp hl => ?_, aq := fun p hp => ?_, a := fun p hp => ?_, mid := fun p hp hl => ?_, m7 := fun p hp hl => ?_, m8 := fun p hp hl => ?_, gs := fun p hp hl he => ?_, bN := fun p hp => ?_ } <;> dsimp only at * <;> rcases upd1_cases (f := c.hL) (q := q) (v := 1) p with ⟨rfl, e⟩ | ⟨hne, e⟩ <;> (try simp only [e] at hl) <;> (try simp only [e]) <;> (try rw [upd1_same]) <;> (try rw [upd1_same]) <;> (try rw [upd1_ne hne]) <;> (try rw [upd1_ne hne])
  · omega
  · exact h.ln p hp
  · omega
  · exact h.out p hp hnp
  · have := h.k p hp; constructor <;> intro hh <;> omega
  · exact h.k p hp
  · exact .inl rfl
  · exact h.nu p hp hl
  · omega
  · exact h.ask p hp hl
  · rcases h.aq p hp with h1 | h1
    · exact .inl h1
    · omega
  · exact h.aq p hp
  · have := h.a p hp; omega
  · exact h.a p hp
  · omega
  · exact ⟨⟨(h.mid p hp hl).1.s, (h.mid p hp hl).1.d⟩, (h.mid p hp hl).2⟩
  · omega
  · exact h.m7 p hp hl
  · omega
  · exact h.m8 p hp hl
  · rw [upd1_same] at he; omega
  · rw [upd1_ne hne] at he; exact h.gs p hp hl he
  · have := h.bD c.W p h.w hp; have := h.bN p hp; omega
  · have := h.bN p hp; omega
/-- a hand's line, while it waits -/
theorem CI.wait {c : CS} {i : Int} (h : CI c i) {q : Nat} (hq : q < 4) (h0 : 2 ≤ c.hL q ∧ c.hL q ≤ 4) {v : Int} (hv : 2 ≤ v ∧ v ≤ 4) : CI { c with hL := upd1 c.hL q v } (i + 1) := by
  have hb := h.mono (show i ≤ i + 1 by omega)
  refine { hb with ln := fun p hp => ?_, out := fun p hp hnp => ?_, k := fun p hp => ?_, nu := fun p hp hl => ?_, ask := fun p hp hl => ?_, aq := fun p hp => ?_, mid := fun p hp hl => ?_, m7 := fun p hp hl => ?_, m8 := fun p hp hl => ?_, gs := fun p hp hl he => ?_ } <;> dsimp only at * <;> rcases upd1_cases (f := c.hL) (q := q) (v := v) p with ⟨rfl, e⟩ | ⟨hne, e⟩ <;> (try simp only [e] at hl) <;> (try simp only [e])
  · omega
  · exact h.ln p hp
  · have := h.out p hp hnp; omega
  · exact h.out p hp hnp
  · have := h.k p hp; constructor <;> intro hh <;> omega
  · exact h.k p hp
  · exact h.nu p hp (by omega)
  · exact h.nu p hp hl
  · exact h.ask p hp (by omega)
  · exact h.ask p hp hl
  · rcases h.aq p hp with h1 | h1
    · exact .inl h1
    · exact .inr ⟨h1.1, by omega⟩
  · exact h.aq p hp
  · omega
  · exact ⟨⟨(h.mid p hp hl).1.s, (h.mid p hp hl).1.d⟩, (h.mid p hp hl).2⟩
  · omega
  · exact h.m7 p hp hl
  · omega
  · exact h.m8 p hp hl
  · exact h.gs p hp (by omega) he
  · exact h.gs p hp hl he
theorem CMid.ask {c : CS} {i : Int} (h : CI c i) (hm : CMid c) {q : Nat} (hq : q < 4) (h1 : c.hL q = 1) {x y z : Int} : CMid { c with aA := upd1 c.aA q x, aN := upd1 c.aN q y, hL := upd1 c.hL q z } := by
  have hnq : ¬ c.D (1 - c.W) q = c.D c.W q + 1 := fun he => by
    rcases hm.d q hq with ⟨a1, a2, a3⟩ | ⟨a1, _⟩
    · rcases h.aq q hq with b1 | ⟨b1, b2⟩ <;> omega
    · omega
  refine ⟨?_, fun p hp => ?_⟩
  · dsimp only
    rw [hm.s]
    congr 1
    refine dsum_congr 4 (fun p _ => Iff.rfl) (fun p _ he => ?_)
    rcases upd1_cases (f := c.aA) (q := q) (v := x) p with ⟨rfl, e⟩ | ⟨hne, e⟩
    · exact absurd he hnq
    · exact e.symm
  · dsimp only
    rcases hm.d p hp with ⟨a1, a2, a3⟩ | ⟨a1, a2⟩
    · have hne : p ≠ q := fun he => hnq (he ▸ a1)
      exact .inl ⟨a1, by rw [upd1_ne hne]; exact a2, by rw [upd1_ne hne]; exact a3⟩
    · exact .inr ⟨a1, a2⟩
/-- a hand asks -/
theorem CI.line1 {c : CS} {i : Int} (h : CI c i) {q : Nat} (hq : q < 4) (h0 : c.hL q = 1) : CI { c with aA := upd1 c.aA q (c.hA q), aN := upd1 c.aN q (c.hN q), hL := upd1 c.hL q 2 } (i + 1) := by
  have hb := h.mono (show i ≤ i + 1 by omega)
  refine { hb with ln := fun p hp => ?_, out := fun p hp hnp => ?_, k := fun p hp => ?_, nu := fun p hp hl => ?_, ask := fun p hp hl => ?_, aq := fun p hp => ?_, a := fun p hp => ?_, mid := fun p hp hl => ⟨CMid.ask h (h.mid p hp ?_).1 hq h0, ?_⟩, m7 := fun p hp hl => ?_, m8 := fun p hp hl => ?_, gs := fun p hp hl he => ?_, bN := fun p hp => ?_ } <;> dsimp only at * <;> rcases upd1_cases (f := c.hL) (q := q) (v := 2) p with ⟨rfl, e⟩ | ⟨hne, e⟩ <;> (try simp only [e] at hl) <;> (try simp only [e]) <;> (try rw [upd1_same]) <;> (try rw [upd1_same]) <;> (try rw [upd1_ne hne]) <;> (try rw [upd1_ne hne])
  · omega
  · exact h.ln p hp
  · have := h.out p hp hnp; omega
  · exact h.out p hp hnp
  · have := h.k p hp; constructor <;> intro hh <;> omega
  · exact h.k p hp
  · exact h.nu p hp (by omega)
  · exact h.nu p hp hl
  · exact ⟨rfl, rfl⟩
  · exact h.ask p hp hl
  · have := h.nu p hp (by omega); omega
  · exact h.aq p hp
  · have := h.a p hp; omega
  · exact h.a p hp
  · omega
  · exact hl
  · omega
  · exact (h.mid p hp hl).2
  · omega
  · exact h.m7 p hp hl
  · omega
  · exact h.m8 p hp hl
  · exact h.gs p hp (by omega) he
  · exact h.gs p hp hl he
  · have := h.bN p hp; omega
  · have := h.bN p hp; omega
/-- the lock is had -/
theorem CI.lock {c : CS} {i : Int} (h : CI c i) {q : Nat} (hq : q < 4) (h0 : c.hL q = 2) (hk : c.K = 0) : CI { c with K := (q : Int) + 1, hL := upd1 c.hL q 5 } (i + 1) := by
  have hb := h.mono (show i ≤ i + 1 by omega)
  have hno : ∀ p, p < 4 → ¬ 5 ≤ c.hL p := fun p hp h5 => by have := (h.k p hp).1 h5; omega
  refine { hb with ln := fun p hp => ?_, out := fun p hp hnp => ?_, k := fun p hp => ?_, k0 := by dsimp only; omega, k4 := by dsimp only; omega, nu := fun p hp hl => ?_, ask := fun p hp hl => ?_, aq := fun p hp => ?_, mid := fun p hp hl => ?_, m7 := fun p hp hl => ?_, m8 := fun p hp hl => ?_, gs := fun p hp hl he => ?_ } <;> dsimp only at * <;> rcases upd1_cases (f := c.hL) (q := q) (v := 5) p with ⟨rfl, e⟩ | ⟨hne, e⟩ <;> (try simp only [e] at hl) <;> (try simp only [e])
  · omega
  · exact h.ln p hp
  · have := h.out p hp hnp; omega
  · exact h.out p hp hnp
  · first | omega | (constructor <;> intro hh <;> omega) | simp
  · have := hno p hp; constructor <;> intro hh <;> omega
  · exact h.nu p hp (by omega)
  · exact h.nu p hp hl
  · exact h.ask p hp (by omega)
  · exact h.ask p hp hl
  · rcases h.aq p hp with h1 | h1
    · exact .inl h1
    · exact .inr ⟨h1.1, by omega⟩
  · exact h.aq p hp
  · omega
  · exact ⟨⟨(h.mid p hp hl).1.s, (h.mid p hp hl).1.d⟩, (h.mid p hp hl).2⟩
  · omega
  · exact h.m7 p hp hl
  · omega
  · exact h.m8 p hp hl
  · exact h.gs p hp (by omega) he
  · exact h.gs p hp hl he
/-- the lock is let go -/
theorem CI.free {c : CS} {i : Int} (h : CI c i) {q : Nat} (hq : q < 4) (h0 : c.hL q = 8) : CI { c with K := 0, hL := upd1 c.hL q 4 } (i + 1) := by
  have hb := h.mono (show i ≤ i + 1 by omega)
  have hkq : c.K = (q : Int) + 1 := (h.k q hq).1 (by omega)
  have hno : ∀ p, p < 4 → p ≠ q → ¬ 5 ≤ c.hL p := fun p hp hne h5 => by have := (h.k p hp).1 h5; omega
  refine { hb with ln := fun p hp => ?_, out := fun p hp hnp => ?_, k := fun p hp => ?_, k0 := by dsimp only; omega, k4 := by dsimp only; omega, nu := fun p hp hl => ?_, ask := fun p hp hl => ?_, aq := fun p hp => ?_, mid := fun p hp hl => ?_, m7 := fun p hp hl => ?_, m8 := fun p hp hl => ?_, gs := fun p hp hl he => ?_ } <;> dsimp only at * <;> rcases upd1_cases (f := c.hL) (q := q) (v := 4) p with ⟨rfl, e⟩ | ⟨hne, e⟩ <;> (try simp only [e] at hl) <;> (try simp only [e])
  · omega
  · exact h.ln p hp
  · have := h.out p hp hnp; omega
  · exact h.out p hp hnp
  · first | omega | (constructor <;> intro hh <;> omega) | simp
  · have := hno p hp hne; constructor <;> intro hh <;> omega
  · exact h.nu p hp (by omega)
  · exact h.nu p hp hl
  · exact h.ask p hp (by omega)
  · exact h.ask p hp hl
  · rcases h.aq p hp with h1 | h1
    · exact .inl h1
    · exact .inr ⟨h1.1, by omega⟩
  · exact h.aq p hp
  · omega
  · exact absurd (show 5 ≤ c.hL p by omega) (hno p hp hne)
  · omega
  · exact h.m7 p hp hl
  · omega
  · exact h.m8 p hp hl
  · exact h.gs p hp (by omega) he
  · exact h.gs p hp hl he
/-- a hand is done -/
theorem CI.done {c : CS} {i : Int} (h : CI c i) {q : Nat} (hq : q < 4) (h0 : c.hL q = 4) (hd : c.hN q = c.D c.W q) : CI { c with hL := upd1 c.hL q 0, hA := upd1 c.hA q 0, hN := upd1 c.hN q 0 } (i + 1) := by
  have hb := h.mono (show i ≤ i + 1 by omega)
  refine { hb with ln := fun p hp => ?_, out := fun p hp hnp => ?_, k := fun p hp => ?_, nu := fun p hp hl => ?_, ask := fun p hp hl => ?_, aq := fun p hp => ?_, a := fun p hp => ?_, mid := fun p hp hl => ?_, m7 := fun p hp hl => ?_, m8 := fun p hp hl => ?_, gs := fun p hp hl he => ?_, bN := fun p hp => ?_ } <;> dsimp only at * <;> rcases upd1_cases (f := c.hL) (q := q) (v := 0) p with ⟨rfl, e⟩ | ⟨hne, e⟩ <;> (try simp only [e] at hl) <;> (try simp only [e]) <;> (try rw [upd1_same]) <;> (try rw [upd1_same]) <;> (try rw [upd1_ne hne]) <;> (try rw [upd1_ne hne])
  · omega
  · exact h.ln p hp
  · exact h.out p hp hnp
  · have := h.k p hp; constructor <;> intro hh <;> omega
  · exact h.k p hp
  · exact absurd rfl hl
  · exact h.nu p hp hl
  · omega
  · exact h.ask p hp hl
  · have := (h.ask p hp (by omega)).1
    exact .inl (by omega)
  · exact h.aq p hp
  · have := h.a p hp; omega
  · exact h.a p hp
  · omega
  · exact ⟨⟨(h.mid p hp hl).1.s, (h.mid p hp hl).1.d⟩, (h.mid p hp hl).2⟩
  · omega
  · exact h.m7 p hp hl
  · omega
  · exact h.m8 p hp hl
  · exact absurd rfl hl
  · rw [upd1_ne hne] at he; exact h.gs p hp hl he
  · have := h.bN p hp; have := h.i0; omega
  · have := h.bN p hp; omega
end Go.Proofs.YtockhbbpcbcenaaDoor
