import Derived.Test.YtiaopgnnibidlaaD10
namespace Go.Proofs.Ytiaopgnnibidlaa
open Go.Eng
set_option maxRecDepth 20000
theorem at_rd {r : Nat} {N x : Int} {own : List Ent} {ro : Addr → Option Value} {m : List Int} {k : Nat} {K : Int → Prop} (hm : ⟨some r, ints m, k⟩ ∈ own) (hl : m.length = N.toNat) (h0 : 0 ≤ x) (h1 : x < N) (hK : K (gI m x.toNat)) :
    ∃ b : Addr, some (Addr.mk r 0 none) = some b ∧ 0 ≤ x ∧ x < ((N.toNat : Nat) : Int) ∧ ∃ y : Int, H.rd ⟨own, ro⟩ (Addr.add (Addr.add b (x.toNat * 1)) 0) (Value.int .i64 y) ∧ K y := by
  refine ⟨_, rfl, h0, by omega, gI m x.toNat, ?_, hK⟩
  rw [add_mk', add_mk', show 0 + x.toNat * 1 + 0 = x.toNat by omega]
  exact rd_gI _ hm rfl rfl (by omega)
theorem at_wr {r : Nat} {N x v : Int} {own : List Ent} {ro : Addr → Option Value} {m : List Int} {k : Nat} {K : H → Prop} (A C : List Ent) (hm : own = A ++ ⟨some r, ints m, k⟩ :: C) (hl : m.length = N.toNat) (h0 : 0 ≤ x) (h1 : x < N) (hK : K ⟨A ++ ⟨some r, ints (m.set x.toNat v), k⟩ :: C, ro⟩) :
    ∃ b : Addr, some (Addr.mk r 0 none) = some b ∧ 0 ≤ x ∧ x < ((N.toNat : Nat) : Int) ∧ H.wr ⟨own, ro⟩ (Addr.add b (x.toNat * 1)) [Value.int .i64 v] K := by
  refine ⟨_, rfl, h0, by omega, ?_⟩
  rw [add_mk', show 0 + x.toNat * 1 = x.toNat by omega]
  exact wr_ints A _ C hm rfl rfl (by omega) hK
def cntF (l : List Int) : Nat → Int := fun j => ((l.count (j : Int) : Nat) : Int)
theorem cntF_app {l : List Int} {x : Int} (h : 0 ≤ x) : updN (cntF l) x.toNat (cntF l x.toNat + 1) = cntF (l ++ [x]) := by
  funext j
  have hc : cntF (l ++ [x]) j = cntF l j + (if (j : Int) = x then 1 else 0) := by
    unfold cntF
    rw [List.count_append, List.count_singleton]
    by_cases e : (j : Int) = x
    · rw [if_pos e, if_pos (by simp [e])]; omega
    · rw [if_neg e, if_neg (by simp; exact fun h => e h.symm)]; omega
  rw [hc]
  by_cases e : (j : Int) = x
  · have : j = x.toNat := by omega
    rw [if_pos e, this, updN_same]
  · rw [if_neg e, updN_ne (by omega)]; omega
theorem rm_zero (n : Nat) : List.replicate n (0 : Int) = rm n (cntF []) := by
  refine List.ext_getElem? fun k => ?_
  by_cases hk : k < n
  · rw [rm_get _ hk, List.getElem?_replicate, if_pos hk]; rfl
  · rw [List.getElem?_eq_none (by simp; omega), List.getElem?_eq_none (by rw [rm_len]; omega)]
set_option maxHeartbeats 1000000 in
theorem dequeOnce_c {n : Int} {st : SV} {rows : List (SV × List Int)} {ro : Addr → Option Value} {post : Value → H → Prop} (hr : RdRowsOf ⟨[], ro⟩ st rows) (hpost : ∀ h, post (.bool true) h) :
    SemCall Try.prog 6 (List.toArray [.int .i64 n, .slice st.a st.len st.cap]) ⟨[], ro⟩ post := by
  refine f6_call _ _ _ post (deque_fact_c ⟨_, rfl, VIf_nb (nomatch ·) (fun _ => ?_)⟩)
  refine dq_new_c (fun hc => ⟨_, _, rfl, VIf_nerr (fun _ => ?_) (nomatch ·)⟩) (fun p L hs n1 n4 => ⟨_, none, rfl, VIf_nnil ?_⟩)
  · refine join_or (ret ?_)
    rw [show decide (n < 1 ∨ n > 4) = true from decide_eq_true (by omega)]
    exact hpost _
  obtain ⟨N, rfl⟩ : ∃ N : Nat, n = (N : Int) := ⟨n.toNat, by omega⟩
  rw [Int.toNat_natCast] at hs
  rw [List.nil_append]
  refine taken_c hs hr (fun pushed sp ss L ep es f hh po stl In hs hp hs2 D hB hpu bf => ⟨_, sp, ss, rfl, by decide, by decide, by decide, by decide, ?_⟩)
  have hpl := hp.sl_len
  have hsl := hs2.sl_len
  rw [ints_length] at hpl hsl
  have hlen := D.len
  simp only [List.length_nil] at hlen
  intro r _
  obtain ⟨R, hR⟩ : ∃ R : List Int → Ent, R = fun l => ⟨some r, ints (rm 400 (cntF l)), 400⟩ := ⟨_, rfl⟩
  have e0 : L ++ [ep, es] ++ [⟨some r, repl ((400 : Int)).toNat [Value.int .i64 (0 : Int)], (repl ((400 : Int)).toNat [Value.int .i64 (0 : Int)]).length⟩] = L ++ [ep, es, R []] := by
    have e1 : repl ((400 : Int)).toNat [Value.int .i64 (0 : Int)] = ints (rm 400 (cntF [])) := by rw [← rm_zero]; exact repl_ints 0 400
    rw [e1, ints_length, rm_len, hR, List.append_assoc]; rfl
  rw [e0]
  have rdp : ∀ l, RdSl ⟨L ++ [ep, es, R l], ro⟩ sp (ints po) := fun l => RdSl.of_own (e := ep) (by simp) hp
  have rds : ∀ l, RdSl ⟨L ++ [ep, es, R l], ro⟩ ss (ints stl) := fun l => RdSl.of_own (e := es) (by simp) hs2
  have put : ∀ {l : List Int} {x : Int} {K : H → Prop}, 0 ≤ x → x < pushed → l.length ≤ 1000 → K ⟨L ++ [ep, es, R (l ++ [x])], ro⟩ →
      ∃ b : Addr, (some (Addr.mk r 0 none)) = some b ∧ 0 ≤ x ∧ x < ((((400 : Int)).toNat : Nat) : Int) ∧ ∃ y : Int, H.rd ⟨L ++ [ep, es, R l], ro⟩ (Addr.add (Addr.add b ((x).toNat * 1)) 0) (Value.int .i64 y) ∧
      In64 (y + (1 : Int)) ∧ ∃ b : Addr, (some (Addr.mk r 0 none)) = some b ∧ 0 ≤ x ∧ x < ((((400 : Int)).toNat : Nat) : Int) ∧ H.wr ⟨L ++ [ep, es, R l], ro⟩ (Addr.add b ((x).toNat * 1)) ([(Value.int .i64 (y + (1 : Int)))]) K := by
    intro l x K h0 h1 hl hK
    refine at_rd (m := rm 400 (cntF l)) (k := 400) (by rw [hR]; simp) (by rw [rm_len]; rfl) h0 (by omega) ⟨?_, ?_⟩
    · rw [gI_rm (by omega)]
      have : l.count ((x.toNat : Nat) : Int) ≤ l.length := List.count_le_length
      unfold cntF
      constructor <;> omega
    · refine at_wr (m := rm 400 (cntF l)) (k := 400) (L ++ [ep, es]) [] (by rw [hR]; simp) (by rw [rm_len]; rfl) h0 (by omega) ?_
      rw [gI_rm (by omega), rm_set, cntF_app h0]
      rw [hR] at hK
      simpa using hK
  refine ⟨fun h => h = ⟨L ++ [ep, es, R po], ro⟩, ⟨fun m i h => ∃ k : Nat, i = (k : Int) ∧ k ≤ po.length ∧ m = po.length - k ∧ h = ⟨L ++ [ep, es, R (po.take k)], ro⟩, ⟨_, gi ⟨0, rfl, by omega, rfl, by simp⟩⟩, ?_⟩, ?_⟩
  · rintro m _ i _ ⟨k, rfl, hk, rfl, rfl⟩
    refine VIf_dec (fun hi => ?_) (fun hi => gi ?_)
    rotate_left
    · rw [List.take_of_length_le (by omega)]
    refine (rdp _).idx (by omega) hi (fun x hx => ⟨⟨by omega, by omega⟩, in_c ⟨_, rfl, VIf_nb (fun h => ?_) (fun _ => ?_)⟩⟩)
    · have := D.rng (.inl (List.mem_of_getElem? hx))
      exact absurd (show 0 ≤ x ∧ x ≤ pushed - 1 by omega) (of_decide_eq_false h)
    · have hx' := D.rng (.inl (List.mem_of_getElem? hx))
      refine (rdp _).idx (by omega) hi (fun x2 hx2 => ?_)
      rw [hx] at hx2; cases hx2
      refine put hx'.1 hx'.2 (by rw [List.length_take]; omega) ⟨⟨by omega, by omega⟩, po.length - (k + 1), by omega, gi ⟨k + 1, by omega, by omega, rfl, ?_⟩⟩
      rw [Int.toNat_natCast] at hx
      rw [List.take_add_one, hx]; rfl
  rintro _ _ rfl
  refine ⟨fun h => h = ⟨L ++ [ep, es, R (po ++ stl)], ro⟩, ⟨fun m i h => ∃ k : Nat, i = (k : Int) ∧ k ≤ stl.length ∧ m = stl.length - k ∧ h = ⟨L ++ [ep, es, R (po ++ stl.take k)], ro⟩, ⟨_, gi ⟨0, rfl, by omega, rfl, by simp⟩⟩, ?_⟩, ?_⟩
  · rintro m _ i _ ⟨k, rfl, hk, rfl, rfl⟩
    refine VIf_dec (fun hi => ?_) (fun hi => gi ?_)
    rotate_left
    · rw [List.take_of_length_le (by omega)]
    obtain ⟨b, x, hb, hx, hrd⟩ := (rds (po ++ stl.take k)).at (i := (k : Int)) (by omega) hi
    have hx' := D.rng (.inr (.inl (List.mem_of_getElem? hx)))
    refine join_bk (h := ⟨L ++ [ep, es, R (po ++ stl.take k)], ro⟩) false (VIf_b (nomatch ·) (fun _ => ?_)) ?_
    · refine (rds _).idx (by omega) hi (fun x2 hx2 => ?_)
      rw [hx] at hx2; cases hx2
      refine put hx'.1 hx'.2 (by rw [List.length_append, List.length_take]; omega) ⟨⟨by omega, by omega⟩, stl.length - (k + 1), by omega, gi ⟨k + 1, by omega, by omega, rfl, ?_⟩⟩
      rw [Int.toNat_natCast] at hx
      rw [List.take_add_one, hx, List.append_assoc]; rfl
    refine ⟨b, hb, by omega, hi, ⟨by omega, by omega⟩, x, hrd, in_c ⟨_, rfl, VIf_nb (fun h => ?_) (fun _ => ?_)⟩⟩
    · exact absurd (show 0 ≤ x ∧ x ≤ pushed - 1 by omega) (of_decide_eq_false h)
    refine VIf_dec (fun hk0 => ?_) (fun _ => gi ⟨rfl, rfl⟩)
    obtain ⟨b', x', hb', hy, hrd'⟩ := (rds (po ++ stl.take k)).at (i := (k : Int) - 1) (by omega) (by omega)
    rw [hb] at hb'; cases hb'
    have hlt : x' < x := by
      have hs := List.pairwise_iff_getElem.1 D.ss
      have i1 : ((k : Int) - 1).toNat < stl.length := by omega
      have i2 : k < stl.length := by omega
      have := hs _ _ i1 i2 (by omega)
      rw [Int.toNat_natCast, List.getElem?_eq_getElem i2] at hx
      rw [List.getElem?_eq_getElem i1] at hy
      cases hx; cases hy; exact this
    refine ⟨⟨by omega, by omega⟩, b, hb, by omega, by omega, b, hb, by omega, hi, ⟨x', hrd', x, hrd, gi ⟨rfl, ?_⟩⟩, ⟨x, hrd, x', hrd', gi ⟨rfl, ?_⟩⟩⟩
    all_goals exact decide_eq_false (by omega)
  rintro _ _ rfl
  refine ⟨fun h => h = ⟨L ++ [ep, es, R (po ++ stl)], ro⟩, ⟨fun m i h => ∃ k : Nat, i = (k : Int) ∧ (k : Int) ≤ pushed ∧ m = (pushed - k).toNat ∧ h = ⟨L ++ [ep, es, R (po ++ stl)], ro⟩, ⟨_, gi ⟨0, rfl, by omega, rfl, rfl⟩⟩, ?_⟩, ?_⟩
  · rintro m _ i _ ⟨k, rfl, hk, rfl, rfl⟩
    refine VIf_dec (fun hi => ?_) (fun hi => gi rfl)
    refine at_rd (m := rm 400 (cntF (po ++ stl))) (k := 400) (by rw [hR]; simp) (by rw [rm_len]; rfl) (by omega) (by omega) (VIf_dec (fun hc => ?_) (fun _ => ⟨⟨by omega, by omega⟩, _, ?_, gi ⟨k + 1, by omega, by omega, rfl, rfl⟩⟩))
    · rw [gI_rm (by omega)] at hc
      have c := D.cnt (k : Int)
      unfold cntF at hc
      rw [Int.toNat_natCast, List.count_append] at hc
      split at c <;> omega
    · omega
  rintro _ _ rfl
  have b8 := bf 8
  have b9 := bf 9
  refine dq_ends_c hs (fun _ h => by simp [h]) ⟨_, _, rfl, ⟨by omega, by omega⟩, ⟨by omega, by omega⟩, ⟨by omega, by omega⟩, ret ?_⟩
  rw [show ((f 9 - f 8) == ((pushed - ((sp.len : Nat) : Int)) - ((ss.len : Nat) : Int))) = true by rw [beq_iff_eq]; omega]
  exact hpost _
end Go.Proofs.Ytiaopgnnibidlaa
