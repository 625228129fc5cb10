
import Derived.WalkKit
import Derived.WideMake
import Derived.MapKept
import Derived.RangeFuncRecord
import Derived.Test.YtnppmcgmmdcpiaaGreatDoorDs
namespace Go.Proofs.YtnppmcgmmdcpiaaGreatDoor
open Go.Eng
set_option maxRecDepth 20000
def vb (m : Int) (f : Nat) : Value := .agg #[.int .i64 m, .func (.func f) #[] #[]]
def vL1 : List (ByteArray × Value) := [(⟨#[97, 115, 107]⟩, vb 3 70)]
def vL2 : List (ByteArray × Value) := vL1 ++ [(⟨#[98, 97, 99, 107]⟩, vb 3 71)]
def vL3 : List (ByteArray × Value) := vL2 ++ [(⟨#[102, 114, 101, 101]⟩, vb 0 72)]
def vL4 : List (ByteArray × Value) := vL3 ++ [(⟨#[114, 111, 119]⟩, vb 0 73)]
def vL5 : List (ByteArray × Value) := vL4 ++ [(⟨#[99, 114, 97, 115, 104]⟩, vb 1 74)]
theorem uVm : Tryz.prog.underlying 110 = some (.map 9 109) := by kernel_rfl
theorem zVm (w : World) : (zeroValue 109).run Tryz.prog w = .ok (.agg #[.int .i64 0, .nilFunc]) w := by
  have : (Tryz.prog.info? 109).bind (·.zero) = some (.agg #[.int .i64 0, .nilFunc]) := by kernel_rfl
  obtain ⟨i, hi, hz⟩ := Option.bind_eq_some_iff.1 this
  simp [zeroValue, typeInfo, hi, hz]
theorem map_step {w0 w : World} {r : Nat} {l : List (ByteArray × Value)} (l' : List (ByteArray × Value)) {k : ByteArray} {v : Value} (hB : Go.RowKit.Below w0.heap.size w0 w) (hr : w0.heap.size ≤ r) (hM : w.heap[r]? = some (.map (mEs 0 l).toArray l.length)) (hn : kfind k 0 l = none) (hl : l' = l ++ [(k, v)]) :
    ∃ w', (Instr.mapUpdate 110 (.map (some r)) (.string k) v).run Tryz.prog w = .ok () w' ∧ Go.RowKit.Below w0.heap.size w0 w' ∧ w'.heap[r]? = some (.map (mEs 0 l').toArray l'.length) := by
  subst hl
  refine ⟨_, map_put uVm u9s hM hn, below_put hB hr _, World.putObj_heap_same (Array.getElem?_eq_some_iff.1 hM).1⟩
/-- which verb it is -/
def VC (w0 : List UInt8) (m : Int) (g : Value) (is : Bool) : Prop :=
  (is = true ∧ w0 = sAsk ∧ m = 3 ∧ g = .func (.func 70) #[] #[]) ∨ (is = true ∧ w0 = sBack ∧ m = 3 ∧ g = .func (.func 71) #[] #[]) ∨ (is = true ∧ w0 = sFree ∧ m = 0 ∧ g = .func (.func 72) #[] #[]) ∨
  (is = true ∧ w0 = sRow ∧ m = 0 ∧ g = .func (.func 73) #[] #[]) ∨ (is = true ∧ w0 = sCrash ∧ m = 1 ∧ g = .func (.func 74) #[] #[]) ∨ (is = false ∧ m = 0 ∧ g = .nilFunc ∧ w0 ≠ sAsk ∧ w0 ≠ sBack ∧ w0 ≠ sFree ∧ w0 ≠ sRow ∧ w0 ≠ sCrash)
theorem verb_cases (w0 : List UInt8) : ∃ m g is, ((kfind (bs w0) 0 vL5).map (·.2)).getD (.agg #[.int .i64 0, .nilFunc]) = .agg #[.int .i64 m, g] ∧ (kfind (bs w0) 0 vL5).isSome = is ∧ VC w0 m g is := by
  have bne : ∀ {u c : List UInt8}, u ≠ c → (bs u == bs c) = false := fun {u c} h => by
    cases hc : (bs u == bs c) with
    | false => rfl
    | true => exact absurd (bs_inj.1 ((MapKept.bytes_beq _ _).1 hc)) h
  have beq : ∀ c : List UInt8, (bs c == bs c) = true := fun c => (MapKept.bytes_beq _ _).2 rfl
  have e : vL5 = [(bs sAsk, vb 3 70), (bs sBack, vb 3 71), (bs sFree, vb 0 72), (bs sRow, vb 0 73), (bs sCrash, vb 1 74)] := rfl
  rw [e]
  by_cases h1 : w0 = sAsk
  · exact ⟨_, _, _, by simp only [kfind, h1, beq, if_true]; rfl, rfl, .inl ⟨by simp only [kfind, h1, beq, if_true]; rfl, h1, rfl, rfl⟩⟩
  by_cases h2 : w0 = sBack
  · exact ⟨_, _, _, by simp only [kfind, bne h1, h2, beq, if_true, bne (u := sBack) (c := sAsk) (by decide)]; rfl, rfl, .inr (.inl ⟨by simp only [kfind, h2, beq, if_true, bne (u := sBack) (c := sAsk) (by decide)]; rfl, h2, rfl, rfl⟩)⟩
  by_cases h3 : w0 = sFree
  · exact ⟨_, _, _, by simp only [kfind, h3, beq, if_true, bne (u := sFree) (c := sAsk) (by decide), bne (u := sFree) (c := sBack) (by decide)]; rfl, rfl, .inr (.inr (.inl ⟨by simp only [kfind, h3, beq, if_true, bne (u := sFree) (c := sAsk) (by decide), bne (u := sFree) (c := sBack) (by decide)]; rfl, h3, rfl, rfl⟩))⟩
  by_cases h4 : w0 = sRow
  · exact ⟨_, _, _, by simp only [kfind, h4, beq, if_true, bne (u := sRow) (c := sAsk) (by decide), bne (u := sRow) (c := sBack) (by decide), bne (u := sRow) (c := sFree) (by decide)]; rfl, rfl, .inr (.inr (.inr (.inl ⟨by simp only [kfind, h4, beq, if_true, bne (u := sRow) (c := sAsk) (by decide), bne (u := sRow) (c := sBack) (by decide), bne (u := sRow) (c := sFree) (by decide)]; rfl, h4, rfl, rfl⟩)))⟩
  by_cases h5 : w0 = sCrash
  · exact ⟨_, _, _, by simp only [kfind, h5, beq, if_true, bne (u := sCrash) (c := sAsk) (by decide), bne (u := sCrash) (c := sBack) (by decide), bne (u := sCrash) (c := sFree) (by decide), bne (u := sCrash) (c := sRow) (by decide)]; rfl, rfl, .inr (.inr (.inr (.inr (.inl ⟨by simp only [kfind, h5, beq, if_true, bne (u := sCrash) (c := sAsk) (by decide), bne (u := sCrash) (c := sBack) (by decide), bne (u := sCrash) (c := sFree) (by decide), bne (u := sCrash) (c := sRow) (by decide)]; rfl, h5, rfl, rfl⟩))))⟩
  · exact ⟨_, _, _, by simp only [kfind, bne h1, bne h2, bne h3, bne h4, bne h5]; rfl, rfl, .inr (.inr (.inr (.inr (.inr ⟨by simp only [kfind, bne h1, bne h2, bne h3, bne h4, bne h5]; rfl, rfl, rfl, h1, h2, h3, h4, h5⟩))))⟩
/-- what a verb does, told alike of all -/
def dR (rd : Nat) (x : Bo) (w0 : List UInt8) (vs : List Nat) (A C : List Ent) (ro : Addr → Option Value) (v : Value) (h : H) : Prop :=
  ∃ s' ro', (∀ a v, ro a = some v → ro' a = some v) ∧ BOO s' (ddo x w0 vs).1 ro' ∧ v = .string (bs (ddo x w0 vs).2) ∧ h = (⟨bxE rd (.pointer (some (Addr.mk s'.r 0 none))) :: A ++ (boL s' ++ C), ro'⟩ : H)
theorem do_70 {rd : Nat} {s : BkS} {x : Bo} {vs : List Nat} {sl : SV} {ro : Addr → Option Value} {T : Nat} (A C : List Ent) (hT : shE 4 T 20 ∈ A ++ C) (hG : HasErrT ro) (hTab : HasTab ro) (h : BOO s x ro) (hw : RdSl ⟨[], ro⟩ sl (ints (natI vs))) (hcap : sl.len ≤ sl.cap) (h3 : vs.length = 3) :
    SemCall Tryz.prog 70 #[.pointer (some (Addr.mk rd 0 none)), .slice sl.a sl.len sl.cap] ⟨bxE rd (.pointer (some (Addr.mk s.r 0 none))) :: A ++ (boL s ++ C), ro⟩ (dR rd x sAsk vs A C ro) :=
  dask_c (T := T) (bxE rd (.pointer (some (Addr.mk s.r 0 none))) :: A) C rfl (by simp only [List.cons_append, List.mem_cons]; exact .inr hT) (by simp) hG hTab h hw hcap h3
    (fun s' ro' m hb hr => ⟨s', ro', m, by rw [ddo_ask (.inl rfl) h3]; exact hb, by rw [ddo_ask (.inl rfl) h3]; rfl, by rw [hr]⟩)
theorem do_71 {rd : Nat} {s : BkS} {x : Bo} {vs : List Nat} {sl : SV} {ro : Addr → Option Value} {T : Nat} (A C : List Ent) (hT : shE 4 T 20 ∈ A ++ C) (hG : HasErrT ro) (hTab : HasTab ro) (h : BOO s x ro) (hw : RdSl ⟨[], ro⟩ sl (ints (natI vs))) (hcap : sl.len ≤ sl.cap) (h3 : vs.length = 3) :
    SemCall Tryz.prog 71 #[.pointer (some (Addr.mk rd 0 none)), .slice sl.a sl.len sl.cap] ⟨bxE rd (.pointer (some (Addr.mk s.r 0 none))) :: A ++ (boL s ++ C), ro⟩ (dR rd x sBack vs A C ro) :=
  dback_c (T := T) (bxE rd (.pointer (some (Addr.mk s.r 0 none))) :: A) C rfl (by simp only [List.cons_append, List.mem_cons]; exact .inr hT) (by simp) hG hTab h hw hcap h3
    (fun s' ro' m hb hr => ⟨s', ro', m, by rw [ddo_ask (.inr rfl) h3]; exact hb, by rw [ddo_ask (.inr rfl) h3]; rfl, by rw [hr]⟩)
theorem do_72 {rd : Nat} {s : BkS} {x : Bo} {vs : List Nat} {sl : SV} {ro : Addr → Option Value} {T : Nat} (A C : List Ent) (hT : shE 4 T 20 ∈ A ++ C) (hTab : HasTab ro) (h : BOO s x ro) (hDI : DI x) (h3 : vs.length = 0) :
    SemCall Tryz.prog 72 #[.pointer (some (Addr.mk rd 0 none)), .slice sl.a sl.len sl.cap] ⟨bxE rd (.pointer (some (Addr.mk s.r 0 none))) :: A ++ (boL s ++ C), ro⟩ (dR rd x sFree vs A C ro) :=
  dfree_c (T := T) (bxE rd (.pointer (some (Addr.mk s.r 0 none))) :: A) C rfl (by simp only [List.cons_append, List.mem_cons, List.mem_append] at hT ⊢; rcases hT with h | h <;> simp [h]) (by simp) hTab h hDI.frees (by have := hDI.inn.f; omega)
    (fun ro' m => ⟨s, ro', m, by rw [ddo_free rfl h3]; exact h.up m, by rw [ddo_free rfl h3], rfl⟩)
theorem do_73 {rd : Nat} {s : BkS} {x : Bo} {vs : List Nat} {sl : SV} {ro : Addr → Option Value} {T : Nat} (A C : List Ent) (hT : shE 4 T 20 ∈ A ++ C) (hTab : HasTab ro) (h : BOO s x ro) (hDI : DI x) (h3 : vs.length = 0) :
    SemCall Tryz.prog 73 #[.pointer (some (Addr.mk rd 0 none)), .slice sl.a sl.len sl.cap] ⟨bxE rd (.pointer (some (Addr.mk s.r 0 none))) :: A ++ (boL s ++ C), ro⟩ (dR rd x sRow vs A C ro) :=
  drow_c (T := T) (bxE rd (.pointer (some (Addr.mk s.r 0 none))) :: A) C rfl (by simp only [List.cons_append, List.mem_cons, List.mem_append] at hT ⊢; rcases hT with h | h <;> simp [h]) (by simp) hTab h hDI
    (fun ro' m => ⟨s, ro', m, by rw [ddo_row rfl h3]; exact h.up m, by rw [ddo_row rfl h3], rfl⟩)
theorem do_74 {rd : Nat} {s : BkS} {x : Bo} {vs : List Nat} {sl : SV} {ro : Addr → Option Value} {T : Nat} (A C : List Ent) (hT : shE 4 T 20 ∈ A ++ C) (hG : HasErrT ro) (hTab : HasTab ro) (hN : HasNum ro) (hM : HasMax ro) (h : BOO s x ro) (hDI : DI x) (hw : RdSl ⟨[], ro⟩ sl (ints (natI vs))) (h3 : vs.length = 1) :
    SemCall Tryz.prog 74 #[.pointer (some (Addr.mk rd 0 none)), .slice sl.a sl.len sl.cap] ⟨bxE rd (.pointer (some (Addr.mk s.r 0 none))) :: A ++ (boL s ++ C), ro⟩ (dR rd x sCrash vs A C ro) := by
  obtain ⟨n, rfl⟩ : ∃ n, vs = [n] := by
    match vs, h3 with
    | [n], _ => exact ⟨n, rfl⟩
  have he := ddo_crash (x := x) (n := n) rfl
  refine dcrash_c (T := T) A C rfl hT hG hTab hN hM h hDI hw (fun e ro' hb m => ?_) (fun y s' ro' hb m hB => ?_)
  · rw [hb] at he
    exact ⟨s, ro', m, by rw [he]; exact h.up m, by rw [he], rfl⟩
  · rw [hb] at he
    exact ⟨s', ro', m, by rw [he]; exact hB, by rw [he], rfl⟩
theorem tail_rd {own : List Ent} {ro : Addr → Option Value} {r7 n : Nat} {w0 : List UInt8} {wt : List (List UInt8)} (h : (⟨some r7, strs (w0 :: wt), n⟩ : Ent) ∈ own) :
    RdSl ⟨own, ro⟩ ⟨if wt = [] then some ⟨r7, 0, none⟩ else some ⟨r7, 1, none⟩, wt.length, wt.length⟩ (strs wt) := by
  refine ⟨by simp [strs], fun hn => ?_, fun b hb i v hv => ?_⟩
  · dsimp only at hn
    split at hn <;> cases hn
  · dsimp only at hb
    by_cases hw : wt = []
    · subst hw; simp [strs] at hv
    · rw [if_neg hw] at hb
      cases hb
      rw [add_mk']
      refine rdo _ h rfl ?_
      show (strs (w0 :: wt))[1 + i]? = some v
      rw [Nat.add_comm]
      exact hv
open Go.RowKit in
set_option maxRecDepth 100000 in
set_option maxHeartbeats 4000000 in
theorem dline43 {rd : Nat} {s : BkS} {x : Bo} {l : List UInt8} (hl : l.length ≤ 1000000) {own : List Ent} {ro : Addr → Option Value} {post : Value → H → Prop} {T : Nat} (A C : List Ent) (hown : own = bxE rd (.pointer (some (Addr.mk s.r 0 none))) :: A ++ (boL s ++ C)) (hT : shE 4 T 20 ∈ A ++ C)
    (hG : HasErrT ro) (hTab : HasTab ro) (hN : HasNum ro) (hM : HasMax ro) (hB : BOO s x ro) (hDI : DI x)
    (hk : ∀ s' ro', (∀ a v, ro a = some v → ro' a = some v) → BOO s' (dans x l).1 ro' → post (.string (bs (dans x l).2)) ⟨bxE rd (.pointer (some (Addr.mk s'.r 0 none))) :: A ++ (boL s' ++ C), ro'⟩) :
    SemCall Tryz.prog 43 (List.toArray [.pointer (some (Addr.mk rd 0 none)), .string (bs l)]) ⟨own, ro⟩ post := by
  intro w hw
  obtain ⟨w0, wt, hws⟩ : ∃ w0 wt, cutB 32 l = w0 :: wt := by
    cases hc : cutB 32 l with
    | nil => exact absurd hc (cutB_ne 32 l)
    | cons a b => exact ⟨a, b, rfl⟩
  have hS := split_c (l := l) hl (own := own) (ro := ro) (post := fun v h => ∃ r7, v = .slice (some ⟨r7, 0, none⟩) (w0 :: wt).length (w0 :: wt).length ∧ h = (⟨own ++ [⟨some r7, strs (w0 :: wt), (w0 :: wt).length⟩], ro⟩ : H)) hM (fun r => by rw [hws]; exact ⟨r, rfl, rfl⟩)
  go_enter Tryz.func43, Tryz.ntmps43
  go_wp2
  rw [run_makeMap_plain]
  have B1 : Below w.heap.size w (w.alloc (.map #[] 0)) := (Below.refl _ w).alloc (Nat.le_refl _) _
  have M1 : (w.alloc (.map #[] 0)).heap[w.heap.size]? = some (.map (mEs 0 []).toArray 0) := World.alloc_heap_new w _
  generalize w.alloc (.map #[] 0) = w1 at B1 M1
  go_wp2
  obtain ⟨w2, e2, B2, M2⟩ := map_step vL1 B1 (Nat.le_refl _) M1 rfl rfl
  simp only [vb] at e2
  rw [e2]
  clear e2 B1 M1
  go_wp2
  obtain ⟨w3, e3, B3, M3⟩ := map_step vL2 B2 (Nat.le_refl _) M2 rfl rfl
  simp only [vb] at e3
  rw [e3]
  clear e3 B2 M2
  go_wp2
  obtain ⟨w4, e4, B4, M4⟩ := map_step vL3 B3 (Nat.le_refl _) M3 rfl rfl
  simp only [vb] at e4
  rw [e4]
  clear e4 B3 M3
  go_wp2
  obtain ⟨w5, e5, B5, M5⟩ := map_step vL4 B4 (Nat.le_refl _) M4 rfl rfl
  simp only [vb] at e5
  rw [e5]
  clear e5 B4 M4
  go_wp2
  obtain ⟨w6, e6, B6, M6⟩ := map_step vL5 B5 (Nat.le_refl _) M5 rfl rfl
  simp only [vb] at e6
  rw [e6]
  clear e6 B5 M5
  obtain ⟨hh6, hf6⟩ := holds_below hw B6
  have hmo : ∀ e ∈ own, e.id ≠ some w.heap.size := fun e he hc => by have := ids_lt hw he hc; omega
  have hsz6 := B6.size
  have hml : w.heap.size < w6.heap.size := (Array.getElem?_eq_some_iff.1 M6).1
  clear B6
  go_wp2_with (go_at_call 56; refine (hS w6 hh6).mono ?_; rintro e w7 ⟨v, h', rfl, hh7, hf7, r7, rfl, rfl⟩; refine Hid.out ?_)
  refine Lib.hid ?_
  have M7 : w7.heap[w.heap.size]? = some (.map (mEs 0 vL5).toArray vL5.length) := (hf7.keep _ hml hmo).trans M6
  have c7 : w7.cell? ⟨r7, 0, none⟩ = some (.string (bs w0)) := rd_sound hh7 (rdo (b := r7) (o := 0) ⟨some r7, strs (w0 :: wt), (w0 :: wt).length⟩ (by simp) rfl rfl)
  have hf7 := hf6.trans hf7
  clear hS hh6 hf6 M6
  go_wp2
  rw [map_get (l := vL5) uVm u9s (zVm _) M7]
  obtain ⟨m, g, is, hv1, hv2, hvc⟩ := verb_cases w0
  rw [hv1, hv2]
  clear hv1 hv2 M7
  have hg1 : g.oneCell' = true := by rcases hvc with ⟨_, _, _, rfl⟩ | ⟨_, _, _, rfl⟩ | ⟨_, _, _, rfl⟩ | ⟨_, _, _, rfl⟩ | ⟨_, _, _, rfl⟩ | ⟨_, _, rfl, _⟩ <;> rfl
  go_wp2
  have hst : (store ⟨w7.heap.size, 1, none⟩ g).run Tryz.prog (w7.alloc (.cells #[.int .i64 m, .nilFunc] 109)) = .ok () (w7.alloc (.cells #[.int .i64 m, g] 109)) := by
    rw [run_store _ _ _ _ _ hg1]
    go_simp
  rw [hst]
  clear hst
  obtain ⟨hh8, hf8⟩ := new_holds hh7 [.int .i64 m, g] #[.int .i64 m, g] 109 ⟨some w7.heap.size, [.int .i64 m, g], 2⟩ rfl rfl rfl (List.prefix_refl _)
  have hf8 := hf7.trans hf8
  clear hf7 hh7
  generalize w7.alloc (.cells #[.int .i64 m, g] 109) = w8 at hh8 hf8
  generalize w7.heap.size = r8 at hh8 hf8
  have hap8 : (⟨some r7, strs (w0 :: wt), (w0 :: wt).length⟩ : Ent) ∈ own ++ [⟨some r7, strs (w0 :: wt), (w0 :: wt).length⟩] ++ [⟨some r8, [.int .i64 m, g], 2⟩] := by simp
  have hTo : shE 4 T 20 ∈ own ++ [⟨some r7, strs (w0 :: wt), (w0 :: wt).length⟩] ++ [⟨some r8, [.int .i64 m, g], 2⟩] := by
    rw [hown]
    simp only [List.mem_append, List.mem_cons] at hT ⊢
    rcases hT with h | h <;> simp [h]
  have hwl := cutB_len 32 l
  have hwm : ∀ w ∈ wt, w.length ≤ 1000000 := fun w hw => Nat.le_trans (cutB_mem (c := 32) (l := l) (by rw [hws]; simp [hw])) hl
  rw [hws] at hwl
  simp only [List.length_cons] at hwl
  have hS2 := dwords_c (T := T) (own := own ++ [⟨some r7, strs (w0 :: wt), (w0 :: wt).length⟩] ++ [⟨some r8, [.int .i64 m, g], 2⟩]) (ro := ro) hTo hTab hN (tail_rd (ro := ro) hap8) hwm (by omega)
    (post := fun v h => (wordsV wt = none ∧ v = .tuple #[.slice none 0 0, .bool false] ∧ h = (⟨own ++ [⟨some r7, strs (w0 :: wt), (w0 :: wt).length⟩] ++ [⟨some r8, [.int .i64 m, g], 2⟩], ro⟩ : H)) ∨
      ∃ vs s9 ro9, wordsV wt = some vs ∧ (∀ a v, ro a = some v → ro9 a = some v) ∧ RdSl ⟨[], ro9⟩ s9 (ints (natI vs)) ∧ s9.len ≤ s9.cap ∧ v = .tuple #[.slice s9.a s9.len s9.cap, .bool true] ∧ h = (⟨own ++ [⟨some r7, strs (w0 :: wt), (w0 :: wt).length⟩] ++ [⟨some r8, [.int .i64 m, g], 2⟩], ro9⟩ : H))
    (fun hn => .inl ⟨hn, rfl, rfl⟩) (fun vs s9 ro9 hvs m9 rl hc => .inr ⟨vs, s9, ro9, hvs, m9, rl, hc, rfl, rfl⟩) w8 hh8
  go_wp2_with (go_at_call 75; refine hS2.mono ?_; rintro e w9 ⟨v, h', rfl, hh9, hf9, hp⟩; refine Hid.out ?_)
  all_goals
    refine Lib.hid ?_
    have hf9 := hf8.trans hf9
    clear hS2 hh8 hf8
    have bad : ∀ (ro9 : Addr → Option Value), Holds w9 ⟨own ++ [⟨some r7, strs (w0 :: wt), (w0 :: wt).length⟩] ++ [⟨some r8, [.int .i64 m, g], 2⟩], ro9⟩ → Fr w w9 ⟨own, ro⟩ ⟨own ++ [⟨some r7, strs (w0 :: wt), (w0 :: wt).length⟩] ++ [⟨some r8, [.int .i64 m, g], 2⟩], ro9⟩ → (∀ a v, ro a = some v → ro9 a = some v) → dans x l = (x, sBad) →
        Holds w9 ⟨own, ro9⟩ ∧ Fr w w9 ⟨own, ro⟩ ⟨own, ro9⟩ ∧ post (.string ⟨#[98, 97, 100]⟩) ⟨own, ro9⟩ := by
      intro ro9 h9 f9 m9 hd
      have gg : Gh ⟨own ++ [⟨some r7, strs (w0 :: wt), (w0 :: wt).length⟩] ++ [⟨some r8, [.int .i64 m, g], 2⟩], ro9⟩ ⟨own, ro9⟩ := Gh.drop (by simp)
      refine ⟨gg.holds _ h9, f9.trans (gg.fr _), ?_⟩
      have := hk s ro9 m9 (by rw [hd]; exact hB.up m9)
      rw [hd, ← hown] at this
      exact this
    have q0 : ∀ ro9, Holds w9 ⟨own ++ [⟨some r7, strs (w0 :: wt), (w0 :: wt).length⟩] ++ [⟨some r8, [.int .i64 m, g], 2⟩], ro9⟩ → w9.cell? ⟨r8, 0, none⟩ = some (.int .i64 m) ∧ w9.cell? ⟨r8, 1, none⟩ = some g := fun ro9 h9 =>
      ⟨rd_sound h9 (rdo (b := r8) (o := 0) ⟨some r8, [.int .i64 m, g], 2⟩ (by simp) rfl rfl), rd_sound h9 (rdo (b := r8) (o := 1) ⟨some r8, [.int .i64 m, g], 2⟩ (by simp) rfl rfl)⟩
    rcases hp with ⟨hno, rfl, rfl⟩ | ⟨vs, s9, ro9, hvs, m9, rl, hcap, rfl, rfl⟩
    · obtain ⟨b1, b2, b3⟩ := bad ro hh9 hf9 (fun _ _ h => h) (by unfold dans; rw [hws, List.tail_cons, hno])
      clear bad hh9 hf9 hk hown
      cases is
      · go_wp2
        go_ret
        first | exact ⟨_, _, rfl, b1, b2, b3⟩ | exact ⟨_, rfl, _, b1, b2, b3⟩
      · go_wp2
        go_ret
        first | exact ⟨_, _, rfl, b1, b2, b3⟩ | exact ⟨_, rfl, _, b1, b2, b3⟩
    obtain ⟨q0, q1⟩ := q0 ro9 hh9
    have hd : dans x l = ddo x w0 vs := by unfold dans; rw [hws, List.tail_cons, hvs]; rfl
    have hl9 := rl.len
    simp only [ints_length, natI, List.length_map] at hl9
    by_cases hb : is = true ∧ ((s9.len : Nat) : Int) = m
    rotate_left
    · have hbad : ddo x w0 vs = (x, sBad) := by
        rcases hvc with ⟨h1, rfl, rfl, _⟩ | ⟨h1, rfl, rfl, _⟩ | ⟨h1, rfl, rfl, _⟩ | ⟨h1, rfl, rfl, _⟩ | ⟨h1, rfl, rfl, _⟩ | ⟨h1, rfl, _, n1, n2, n3, n4, n5⟩
        · exact ddo_bad (fun h => hb ⟨h1, by omega⟩) (fun h => absurd h.1 (by decide)) (fun h => absurd h.1 (by decide)) (fun h => absurd h.1 (by decide))
        · exact ddo_bad (fun h => hb ⟨h1, by omega⟩) (fun h => absurd h.1 (by decide)) (fun h => absurd h.1 (by decide)) (fun h => absurd h.1 (by decide))
        · exact ddo_bad (fun h => absurd h.1 (by decide)) (fun h => hb ⟨h1, by omega⟩) (fun h => absurd h.1 (by decide)) (fun h => absurd h.1 (by decide))
        · exact ddo_bad (fun h => absurd h.1 (by decide)) (fun h => absurd h.1 (by decide)) (fun h => hb ⟨h1, by omega⟩) (fun h => absurd h.1 (by decide))
        · exact ddo_bad (fun h => absurd h.1 (by decide)) (fun h => absurd h.1 (by decide)) (fun h => absurd h.1 (by decide)) (fun h => hb ⟨h1, by omega⟩)
        · exact ddo_bad (fun h => h.1.elim n1 n2) (fun h => n3 h.1) (fun h => n4 h.1) (fun h => n5 h.1)
      obtain ⟨b1, b2, b3⟩ := bad ro9 hh9 hf9 m9 (hd.trans hbad)
      clear bad hh9 hf9 hk hbad hd hvc hown hl9
      cases is
      · go_wp2
        go_ret
        first | exact ⟨_, _, rfl, b1, b2, b3⟩ | exact ⟨_, rfl, _, b1, b2, b3⟩
      · have hne : ((s9.len : Nat) : Int) ≠ m := fun h => hb ⟨rfl, h⟩
        go_wp2
        go_ret
        first | exact ⟨_, _, rfl, b1, b2, b3⟩ | exact ⟨_, rfl, _, b1, b2, b3⟩
    obtain ⟨rfl, hlm⟩ := hb
    have hT2 : shE 4 T 20 ∈ A ++ (C ++ [⟨some r7, strs (w0 :: wt), (w0 :: wt).length⟩] ++ [⟨some r8, [.int .i64 m, g], 2⟩]) := by
      simp only [List.mem_append] at hT ⊢
      rcases hT with h | h <;> simp [h]
    have eown : own ++ [⟨some r7, strs (w0 :: wt), (w0 :: wt).length⟩] ++ [⟨some r8, [.int .i64 m, g], 2⟩] = bxE rd (.pointer (some (Addr.mk s.r 0 none))) :: A ++ (boL s ++ (C ++ [⟨some r7, strs (w0 :: wt), (w0 :: wt).length⟩] ++ [⟨some r8, [.int .i64 m, g], 2⟩])) := by rw [hown]; simp
    have fin : ∀ (v : Value) (w10 : World) (h' : H), Holds w10 h' → Fr w9 w10 ⟨own ++ [⟨some r7, strs (w0 :: wt), (w0 :: wt).length⟩] ++ [⟨some r8, [.int .i64 m, g], 2⟩], ro9⟩ h' → dR rd x w0 vs A (C ++ [⟨some r7, strs (w0 :: wt), (w0 :: wt).length⟩] ++ [⟨some r8, [.int .i64 m, g], 2⟩]) ro9 v h' →
        ∃ str, v = .string str ∧ ∃ h2, Holds w10 h2 ∧ Fr w w10 ⟨own, ro⟩ h2 ∧ post (.string str) h2 := by
      rintro v w10 h' h10 f10 ⟨s', ro', m', hB, rfl, rfl⟩
      have gg : Gh ⟨bxE rd (.pointer (some (Addr.mk s'.r 0 none))) :: A ++ (boL s' ++ (C ++ [⟨some r7, strs (w0 :: wt), (w0 :: wt).length⟩] ++ [⟨some r8, [.int .i64 m, g], 2⟩])), ro'⟩ ⟨bxE rd (.pointer (some (Addr.mk s'.r 0 none))) :: A ++ (boL s' ++ C), ro'⟩ := by
        refine Gh.drop ?_
        refine List.Sublist.append_left (List.Sublist.append_left ?_ _) _
        rw [List.append_assoc]
        exact List.sublist_append_left _ _
      refine ⟨_, rfl, _, gg.holds _ h10, (hf9.trans f10).trans (gg.fr _), ?_⟩
      have := hk s' ro' (fun a v h => m' a v (m9 a v h)) (by rw [hd]; exact hB)
      rw [hd] at this
      exact this
    clear bad hk hown
    rcases hvc with ⟨_, rfl, rfl, rfl⟩ | ⟨_, rfl, rfl, rfl⟩ | ⟨_, rfl, rfl, rfl⟩ | ⟨_, rfl, rfl, rfl⟩ | ⟨_, rfl, rfl, rfl⟩ | ⟨h1, _⟩
    · have h3 : vs.length = 3 := by omega
      have hc := do_70 (rd := rd) (sl := s9) A _ hT2 (hG.up m9) (hTab.up m9) (hB.up m9) rl hcap h3 w9 (by rw [← eown]; exact hh9)
      rw [← eown] at hc
      clear hl9 h3 eown hT2 hh9
      go_wp2_with (go_at_call 70; refine hc.mono ?_; rintro e w10 ⟨v, h', rfl, h10, f10, hr⟩; obtain ⟨str, rfl, h2, k1, k2, k3⟩ := fin v w10 h' h10 f10 hr; refine Hid.out ?_)
      refine Lib.hid ?_
      go_wp2
      go_ret
      first | exact ⟨_, _, rfl, k1, k2, k3⟩ | exact ⟨_, rfl, _, k1, k2, k3⟩
    · have h3 : vs.length = 3 := by omega
      have hc := do_71 (rd := rd) (sl := s9) A _ hT2 (hG.up m9) (hTab.up m9) (hB.up m9) rl hcap h3 w9 (by rw [← eown]; exact hh9)
      rw [← eown] at hc
      clear hl9 h3 eown hT2 hh9
      go_wp2_with (go_at_call 71; refine hc.mono ?_; rintro e w10 ⟨v, h', rfl, h10, f10, hr⟩; obtain ⟨str, rfl, h2, k1, k2, k3⟩ := fin v w10 h' h10 f10 hr; refine Hid.out ?_)
      refine Lib.hid ?_
      go_wp2
      go_ret
      first | exact ⟨_, _, rfl, k1, k2, k3⟩ | exact ⟨_, rfl, _, k1, k2, k3⟩
    · have h3 : vs.length = 0 := by omega
      have hc := do_72 (rd := rd) (sl := s9) (vs := vs) A _ hT2 (hTab.up m9) (hB.up m9) hDI h3 w9 (by rw [← eown]; exact hh9)
      rw [← eown] at hc
      clear hl9 h3 eown hT2 hh9
      go_wp2_with (go_at_call 72; refine hc.mono ?_; rintro e w10 ⟨v, h', rfl, h10, f10, hr⟩; obtain ⟨str, rfl, h2, k1, k2, k3⟩ := fin v w10 h' h10 f10 hr; refine Hid.out ?_)
      refine Lib.hid ?_
      go_wp2
      go_ret
      first | exact ⟨_, _, rfl, k1, k2, k3⟩ | exact ⟨_, rfl, _, k1, k2, k3⟩
    · have h3 : vs.length = 0 := by omega
      have hc := do_73 (rd := rd) (sl := s9) (vs := vs) A _ hT2 (hTab.up m9) (hB.up m9) hDI h3 w9 (by rw [← eown]; exact hh9)
      rw [← eown] at hc
      clear hl9 h3 eown hT2 hh9
      go_wp2_with (go_at_call 73; refine hc.mono ?_; rintro e w10 ⟨v, h', rfl, h10, f10, hr⟩; obtain ⟨str, rfl, h2, k1, k2, k3⟩ := fin v w10 h' h10 f10 hr; refine Hid.out ?_)
      refine Lib.hid ?_
      go_wp2
      go_ret
      first | exact ⟨_, _, rfl, k1, k2, k3⟩ | exact ⟨_, rfl, _, k1, k2, k3⟩
    · have h3 : vs.length = 1 := by omega
      have hc := do_74 (rd := rd) (sl := s9) A _ hT2 (hG.up m9) (hTab.up m9) (hN.up m9) (hM.up m9) (hB.up m9) hDI rl h3 w9 (by rw [← eown]; exact hh9)
      rw [← eown] at hc
      clear hl9 h3 eown hT2 hh9
      go_wp2_with (go_at_call 74; refine hc.mono ?_; rintro e w10 ⟨v, h', rfl, h10, f10, hr⟩; obtain ⟨str, rfl, h2, k1, k2, k3⟩ := fin v w10 h' h10 f10 hr; refine Hid.out ?_)
      refine Lib.hid ?_
      go_wp2
      go_ret
      first | exact ⟨_, _, rfl, k1, k2, k3⟩ | exact ⟨_, rfl, _, k1, k2, k3⟩
    · cases h1
end Go.Proofs.YtnppmcgmmdcpiaaGreatDoor
