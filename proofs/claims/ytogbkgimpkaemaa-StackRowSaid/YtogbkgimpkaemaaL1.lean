import Derived.Test.YtogbkgimpkaemaaC
import Derived.Test.YtogbkgimpkaemaaLi
import Derived.Test.YtogbkgimpkaemaaL0
import Derived.Test.YtogbkgimpkaemaaT2
namespace Go.Proofs.Ytogbkgimpkaemaa
open Go.Eng
set_option maxRecDepth 20000
/-! ### sets as numbers -/
def lbit (m i : Int) : Bool := bitsV .and (m.fdiv (2 ^ i.toNat)) 1 == 1
theorem lbits_or : ∀ m : Nat, m < 256 → ∀ i : Nat, i < 8 → 0 ≤ bitsV .or (m : Int) (1 * 2 ^ i) ∧ bitsV .or (m : Int) (1 * 2 ^ i) < 256 ∧ ∀ j : Nat, j < 8 → lbit (bitsV .or (m : Int) (1 * 2 ^ i)) j = (lbit m j || i == j) := by decide +kernel
theorem lbits_no : ∀ m : Nat, m < 256 → ∀ i : Nat, i < 8 → 0 ≤ bitsV .andNot (m : Int) (1 * 2 ^ i) ∧ bitsV .andNot (m : Int) (1 * 2 ^ i) < 256 ∧ ∀ j : Nat, j < 8 → lbit (bitsV .andNot (m : Int) (1 * 2 ^ i)) j = (lbit m j && !(i == j)) := by decide +kernel
theorem lbit_test : ∀ m : Nat, m < 256 → ∀ j : Nat, j < 8 → lbit (m : Int) j = m.testBit j := by decide +kernel
theorem lbits_sub (m d : Nat) (hm : m < 256) (hd : d < 256) : (bitsV .andNot (m : Int) (d : Int) = 0) ↔ ∀ j : Nat, j < 8 → lbit m j = true → lbit d j = true := by
  have e : bitsV .andNot (m : Int) (d : Int) = IntKind.i64.wrap ((BitVec.ofNat 64 m &&& ~~~ BitVec.ofNat 64 d).toNat : Nat) := by
    simp only [bitsV, IntKind.bits, BitVec.ofInt_natCast]
    rfl
  have hx : (BitVec.ofNat 64 m &&& ~~~ BitVec.ofNat 64 d).toNat ≤ m := by
    rw [BitVec.toNat_and]
    refine Nat.le_trans Nat.and_le_left ?_
    rw [BitVec.toNat_ofNat]
    exact Nat.mod_le _ _
  have ew : IntKind.i64.wrap (((BitVec.ofNat 64 m &&& ~~~ BitVec.ofNat 64 d).toNat : Nat) : Int) = ((BitVec.ofNat 64 m &&& ~~~ BitVec.ofNat 64 d).toNat : Nat) := wrap_in ⟨by omega, by omega⟩
  rw [e, ew]
  have hz : (((BitVec.ofNat 64 m &&& ~~~ BitVec.ofNat 64 d).toNat : Nat) : Int) = 0 ↔ BitVec.ofNat 64 m &&& ~~~ BitVec.ofNat 64 d = 0#64 := by
    constructor
    · intro h
      exact BitVec.eq_of_toNat_eq (by simpa using (by omega : (BitVec.ofNat 64 m &&& ~~~ BitVec.ofNat 64 d).toNat = 0))
    · intro h; rw [h]; rfl
  rw [hz]
  have hb : ∀ (x : Nat) (j : Nat), j < 64 → (BitVec.ofNat 64 x).getLsbD j = x.testBit j := fun x j hj => by rw [BitVec.getLsbD_ofNat]; simp [hj]
  constructor
  · intro h j hj hmj
    rw [lbit_test m hm j hj] at hmj
    rw [lbit_test d hd j hj]
    have := congrArg (fun x => BitVec.getLsbD x j) h
    simp only [BitVec.getLsbD_and, BitVec.getLsbD_not, hb _ _ (show j < 64 by omega), hmj, BitVec.getLsbD_zero] at this
    simpa [show j < 64 by omega] using this
  · intro h
    refine BitVec.eq_of_getLsbD_eq fun j hj => ?_
    simp only [BitVec.getLsbD_and, BitVec.getLsbD_not, hb _ _ hj, BitVec.getLsbD_zero, hj, decide_true, Bool.true_and]
    by_cases hj8 : j < 8
    · have := h j hj8
      rw [lbit_test m hm j hj8, lbit_test d hd j hj8] at this
      cases hmj : m.testBit j
      · simp
      · simp [this hmj]
    · have : m.testBit j = false := Nat.testBit_lt_two_pow (Nat.lt_of_lt_of_le hm (Nat.pow_le_pow_right (n := 2) (by decide) (by omega : 8 ≤ j)))
      simp [this]
/-- a number that is the set of those told -/
def Msk (m : Int) (p : Nat → Prop) : Prop := 0 ≤ m ∧ m < 256 ∧ ∀ j : Nat, j < 8 → (lbit m j = true ↔ p j)
theorem Msk.nat {m : Int} {p : Nat → Prop} (h : Msk m p) : ∃ n : Nat, m = n ∧ n < 256 := ⟨m.toNat, by have := h.1; omega, by have := h.2.1; have := h.1; omega⟩
theorem Msk.nil {p : Nat → Prop} (h : ∀ j, j < 8 → ¬ p j) : Msk 0 p := ⟨by decide, by decide, fun j hj => by
  rw [show lbit 0 (j : Int) = (0 : Nat).testBit j from lbit_test 0 (by decide) j hj]
  simp [h j hj]⟩
theorem Msk.or {m : Int} {p q : Nat → Prop} (h : Msk m p) {i : Nat} (hi : i < 8) (hq : ∀ j, j < 8 → (q j ↔ p j ∨ i = j)) : Msk (bitsV .or m (1 * 2 ^ i)) q := by
  obtain ⟨n, rfl, hn⟩ := h.nat
  obtain ⟨a, b, c⟩ := lbits_or n hn i hi
  refine ⟨a, b, fun j hj => ?_⟩
  rw [c j hj, hq j hj, ← h.2.2 j hj]
  simp
theorem Msk.no {m : Int} {p q : Nat → Prop} (h : Msk m p) {i : Nat} (hi : i < 8) (hq : ∀ j, j < 8 → (q j ↔ p j ∧ i ≠ j)) : Msk (bitsV .andNot m (1 * 2 ^ i)) q := by
  obtain ⟨n, rfl, hn⟩ := h.nat
  obtain ⟨a, b, c⟩ := lbits_no n hn i hi
  refine ⟨a, b, fun j hj => ?_⟩
  rw [c j hj, hq j hj, ← h.2.2 j hj]
  simp
theorem Msk.sub {m d : Int} {p q : Nat → Prop} (h : Msk m p) (h2 : Msk d q) : bitsV .andNot m d = 0 ↔ ∀ j, j < 8 → p j → q j := by
  obtain ⟨n, rfl, hn⟩ := h.nat
  obtain ⟨n2, rfl, hn2⟩ := h2.nat
  rw [lbits_sub n n2 hn hn2]
  exact ⟨fun x j hj hp => (h2.2.2 j hj).1 (x j hj ((h.2.2 j hj).2 hp)), fun x j hj hp => (h2.2.2 j hj).2 (x j hj ((h.2.2 j hj).1 hp))⟩
theorem pow_in {i : Nat} (h : i < 8) : In64 (1 * 2 ^ i) := by
  have : ∀ n : Nat, n < 8 → In64 (1 * 2 ^ n) := by unfold In64; decide
  exact this i h
theorem lhas_c {m i : Int} {h : H} {post : Value → H → Prop} (h0 : 0 ≤ i) (h1 : i ≤ 63) (hk : post (.bool (lbit m i)) h) : SemCall Try.prog 39 (List.toArray [.int .i64 m, .int .i64 i]) h post :=
  f39_call m i h post ⟨h0, h1, ret hk⟩
/-! ### objects -/
/-- a slice without its last one -/
theorem OwnsSl.cut {sz : Nat} {s : SV} {e : Ent} {xs : List Value} (h : OwnsSl sz s e xs) {n : Nat} (hn : n ≤ s.len) : OwnsSl sz ⟨s.a, n, s.cap⟩ ⟨e.id, e.cells.take (e.cells.length - (s.len - n) * sz), e.cap⟩ (xs.take (n * sz)) := by
  rcases h with ⟨h1, h2, h3, h4, h5, h6⟩ | ⟨b, off, h1, h2, h3, h4, h5, h6, h7⟩
  · exact .inl ⟨h1, by dsimp only; omega, h3, h4, by simp [h5], by simp [h6]⟩
  · have hm : n * sz ≤ s.len * sz := Nat.mul_le_mul_right _ hn
    have hs : (s.len - n) * sz = s.len * sz - n * sz := Nat.sub_mul _ _ _
    refine .inr ⟨b, off, h1, h2, ?_, ?_, by dsimp only; omega, h6, ?_⟩
    · dsimp only; rw [List.length_take, hs, h3]; omega
    · exact h4
    · dsimp only
      rw [List.drop_take, h7]
      congr 1
      omega
def lopV (o : LOp) : List Value := [.int .i64 o.hand, .int .i64 o.kind, .int .i64 o.arg, .int .i64 o.got, .int .i64 o.frm, .int .i64 o.too]
theorem lopV_len (o : LOp) : (lopV o).length = 6 := rfl
theorem allOne_lop (o : LOp) : allOne (lopV o) := ⟨rfl, rfl, rfl, rfl, rfl, rfl, trivial⟩
def objT (k : Int) : TypeId := if k = 0 then 91 else if k = 1 then 94 else 99
def ObjAt (k : Int) (r : Nat) (st : List Int) (L : List Ent) : Prop :=
  (k = 0 ∧ ∃ x, st = [x] ∧ L = [⟨some r, [.int .i64 x], 1⟩]) ∨ (k ≠ 0 ∧ ∃ s e, L = [⟨some r, [.slice s.a s.len s.cap], 1⟩, e] ∧ OwnsSl 1 s e (ints st))
structure LSt (k : Int) (st : List Int) (n : Nat) : Prop where
  c : k = 0 → 0 ≤ gI st 0 ∧ gI st 0 ≤ 1000 * n
  l : k ≠ 0 → st.length ≤ n ∧ ∀ x ∈ st, 0 ≤ x
theorem LSt.go {k : Int} {st : List Int} {n : Nat} (h : LSt k st n) {o : LOp} (h0 : 0 ≤ o.arg) (h1 : o.arg ≤ 1000) : LSt k (lgo k st o) (n + 1) := by
  obtain ⟨hc, hl⟩ := h
  unfold lgo lget
  refine ⟨fun hk => ?_, fun hk => ?_⟩
  · have := hc hk
    rw [if_pos hk]
    dsimp only
    split
    · simp [gI] at this ⊢; omega
    · omega
  · obtain ⟨a, b⟩ := hl hk
    rw [if_neg hk]
    split
    · refine ⟨by simp; omega, fun x hx => ?_⟩
      simp only [List.mem_append, List.mem_singleton] at hx
      rcases hx with hx | rfl
      · exact b x hx
      · exact h0
    · split
      · exact ⟨Nat.le_succ_of_le a, b⟩
      · split
        · exact ⟨by simp; omega, fun x hx => b x (List.mem_of_mem_take hx)⟩
        · exact ⟨by simp; omega, fun x hx => b x (List.mem_of_mem_drop hx)⟩
theorem pile_in_c {r : Nat} {o : LOp} {s : SV} {xs : List Int} {own : List Ent} {ro : Addr → Option Value} {post : Value → H → Prop} (A : List Ent) (e : Ent) (C : List Ent) (hown : own = A ++ ⟨some r, [.slice s.a s.len s.cap], 1⟩ :: e :: C) (ho : OwnsSl 1 s e (ints xs)) (hl : s.len ≤ 1000)
    (hk : ∀ (s' : SV) (e' : Ent), OwnsSl 1 s' e' (ints (xs ++ [o.arg])) → post (.tuple (List.toArray [])) ⟨A ++ ⟨some r, [.slice s'.a s'.len s'.cap], 1⟩ :: e' :: C, ro⟩) :
    SemCall Try.prog 64 (List.toArray [.pointer (some (Addr.mk r 0 none)), .agg (List.toArray (lopV o))]) ⟨own, ro⟩ post := by
  subst hown
  refine f64_call _ _ _ _ _ _ _ _ post ?_
  intro r1 _
  simp only [add_mk', Option.some.injEq, exists_eq_left', Nat.zero_add, Nat.add_zero]
  refine ⟨s, rdo ⟨some r, [.slice s.a s.len s.cap], 1⟩ (by simp) rfl rfl, o.arg, rdo ⟨some r1, lopV o, 6⟩ (by simp [lopV]) rfl rfl, ?_⟩
  refine app_row grows_ints (vs := [.int .i64 o.arg]) rfl ⟨rfl, trivial⟩ (A ++ [⟨some r, [.slice s.a s.len s.cap], 1⟩]) e (C ++ [⟨some r1, lopV o, 6⟩]) (by simp [lopV]) ho (by omega) (fun s' e' o' _ => ?_)
  refine wro A ⟨some r, [.slice s.a s.len s.cap], 1⟩ (e' :: (C ++ [⟨some r1, lopV o, 6⟩])) ⟨rfl, trivial⟩ (by simp) rfl (by simp) ?_
  refine ⟨_, ?_, hk s' e' (by simpa [ints, intV] using o')⟩
  exact Gh.drop (by simp [spl])
theorem pile_cut_c {r : Nat} {s : SV} {xs : List Int} {own : List Ent} {ro : Addr → Option Value} {post : Value → H → Prop} (A : List Ent) (e : Ent) (C : List Ent) (hown : own = A ++ ⟨some r, [.slice s.a s.len s.cap], 1⟩ :: e :: C) (ho : OwnsSl 1 s e (ints xs)) (hl : s.len ≤ 1000) (hp : xs.length ≠ 0)
    (hk : ∀ (s' : SV) (e' : Ent), OwnsSl 1 s' e' (ints (xs.take (xs.length - 1))) → post (.tuple (List.toArray [])) ⟨A ++ ⟨some r, [.slice s'.a s'.len s'.cap], 1⟩ :: e' :: C, ro⟩) :
    SemCall Try.prog 61 (List.toArray [.pointer (some (Addr.mk r 0 none))]) ⟨own, ro⟩ post := by
  subst hown
  have hsl := ho.sl_len
  rw [ints_length] at hsl
  have hcl := ho.cap_le
  refine f61_call _ _ post ?_
  simp only [f61_sem, add_mk', Option.some.injEq, exists_eq_left', Nat.zero_add, Nat.add_zero]
  refine ⟨s, rdo ⟨some r, [.slice s.a s.len s.cap], 1⟩ (by simp) rfl rfl, s, rdo ⟨some r, [.slice s.a s.len s.cap], 1⟩ (by simp) rfl rfl, ⟨by omega, by omega⟩, by omega, by omega, ?_⟩
  refine wro A ⟨some r, [.slice s.a s.len s.cap], 1⟩ (e :: C) ⟨rfl, trivial⟩ rfl rfl (by simp) ?_
  have hc := OwnsSl.cut ho (n := xs.length - 1) (by omega)
  simp only [Nat.mul_one] at hc
  rw [show (ints xs).take (xs.length - 1) = ints (xs.take (xs.length - 1)) by simp [ints, List.map_take]] at hc
  refine ⟨_, ?_, hk _ _ hc⟩
  have e1 : (((s.len : Nat) : Int) - 1).toNat = xs.length - 1 := by omega
  have := Gh.weaken (A ++ [⟨some r, [.slice s.a (xs.length - 1) s.cap], 1⟩]) C ro e (e.cells.take (e.cells.length - (s.len - (xs.length - 1)))) (List.take_prefix _ _)
  simpa [spl, e1] using this
end Go.Proofs.Ytogbkgimpkaemaa
