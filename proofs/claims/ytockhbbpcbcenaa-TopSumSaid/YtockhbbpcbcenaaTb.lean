import Derived.Test.YtockhbbpcbcenaaTa
import Derived.Test.YtockhbbpcbcenaaTt
import Derived.Test.YtockhbbpcbcenaaEngL
import Derived.Test.YtockhbbpcbcenaaEngJ
namespace Go.Proofs.Ytockhbbpcbcenaa
open Go.Eng
set_option maxRecDepth 20000
/-! ### TopSum, walked -/
theorem intop_c {n lo hi : Int} {h : H} {post : Value → H → Prop} (hk : post (.bool (decide (lo ≤ n ∧ n ≤ hi))) h) : SemCall Try.prog 19 (List.toArray [.int .i64 n, .int .i64 lo, .int .i64 hi]) h post := by
  refine f19_call n lo hi h post ?_
  refine ⟨fun b h' => h' = h ∧ b = decide (lo ≤ n ∧ n ≤ hi), VIf_dec (fun hx => gi ⟨rfl, ?_⟩) (fun hx => gi ⟨rfl, ?_⟩), ?_⟩
  · have : lo ≤ n := hx; simp [this]
  · have : ¬ lo ≤ n := hx; simp [this]
  · rintro _ b h' ⟨rfl, rfl⟩; exact ret hk
theorem CV.ci {p : Nat} {c : CS} {i : Int} {L : List Ent} (h : CV p c i L) : CI c i := by obtain ⟨_, _, _, d⟩ := h; exact d
theorem CV.up {p : Nat} {c : CS} {i j : Int} {L : List Ent} (h : CV p c i L) (hj : i ≤ j) : CV p c j L := by obtain ⟨m, a, b, d⟩ := h; exact ⟨m, a, b, d.mono hj⟩
def TsSt (pu pc : Nat) (ro : Addr → Option Value) (k : Nat) (sum : Int) (s : SV) (h : H) : Prop :=
  ∃ Lu Lc u c eh os, h = ⟨Lu ++ (Lc ++ [eh]), ro⟩ ∧ UnivAt pu u Lu ∧ UIdle u k sum ∧ CV pc c (30 * k) Lc ∧ CIdle c sum ∧ OwnsSl 6 s eh (os.flatMap lopV) ∧ os.length = k ∧ SRow os sum ∧ 0 ≤ sum ∧ sum ≤ 1000 * k
set_option maxHeartbeats 1600000 in
theorem topSum_c {sh sa : SV} {hs bs : List Int} {keep : Bool} {ro : Addr → Option Value} {post : Value → H → Prop} (hr : RdSl ⟨[], ro⟩ sh (ints hs)) (ar : RdSl ⟨[], ro⟩ sa (ints bs)) (hpost : ∀ h, post (.bool true) h) :
    SemCall Try.prog 6 (List.toArray [.slice sh.a sh.len sh.cap, .slice sa.a sa.len sa.cap, .bool keep]) ⟨[], ro⟩ post := by
  refine f6_call _ _ _ _ post ?_
  refine univ_new_c (fun h => absurd ⟨by decide, by decide⟩ h) (fun pu Lu hu _ _ => ⟨_, none, rfl, ?_⟩)
  refine cv_new (fun h => absurd ⟨by decide, by decide⟩ h) (fun pc Lc hc _ _ => ⟨_, none, rfl, ?_⟩)
  refine join_b (h := ⟨[] ++ Lu ++ Lc, ro⟩) false (VIf_nnil ⟨rfl, gi ⟨rfl, rfl⟩⟩) (VIf_b (nomatch ·) (fun _ => ?_))
  have hlen := hr.len
  have alen := ar.len
  rw [ints_length] at hlen alen
  have hr : ∀ {X}, RdSl ⟨X, ro⟩ sh (ints hs) := fun {X} => hr.mono (by simp) (fun _ _ h => h)
  have ar : ∀ {X}, RdSl ⟨X, ro⟩ sa (ints bs) := fun {X} => ar.mono (by simp) (fun _ _ h => h)
  refine ⟨fun s h => ∃ k sum, k ≤ 8 ∧ TsSt pu pc ro k sum s h, ⟨fun n sum s i h => ∃ k : Nat, i = (k : Int) ∧ k ≤ 8 ∧ n = 8 - k ∧ TsSt pu pc ro k sum s h, ⟨_, ⟨Lu ++ (Lc ++ [⟨none, [], 0⟩]), ro⟩, ?_, 0, rfl, by omega, rfl, Lu, Lc, _, _, _, [], rfl, hu, ⟨UInv.start (n := 4) (by decide), rfl, rfl, rfl, fun p h hh => ?_⟩, hc, ⟨rfl, fun _ _ => rfl, rfl⟩, OwnsSl.nil 6, rfl, ⟨trivial, rfl, fun j x hx => by simp at hx⟩, by omega, by omega⟩, ?_⟩, ?_⟩
  · have g := Gh.phantom (Lu ++ Lc) [] ro 0
    simpa using g
  · have := ubusy_idle (n := 4) (p := p) (d := []) (c := List.replicate 41 0)
    exact Classical.byContradiction fun h0 => this ⟨h, hh, h0⟩
  · clear hu hc
    rintro n _ sum s i _ ⟨k, rfl, hk, rfl, Lu, Lc, u, c, eh, os, rfl, hu, U, hc, C, oh, hos, R, s0, s1⟩
    refine join_b (h := ⟨Lu ++ (Lc ++ [eh]), ro⟩) (decide ((k : Int) < ((sh.len : Nat) : Int) ∧ (k : Int) < ((sa.len : Nat) : Int) ∧ (k : Int) < 8)) (VIf_dec (fun h1 => VIf_dec (fun h2 => gi ⟨rfl, decide_eq_decide.2 ⟨fun h => ⟨h1, h2, h⟩, fun h => h.2.2⟩⟩) (fun h2 => gi ⟨rfl, (decide_eq_false (fun h => h2 h.2.1)).symm⟩)) (fun h1 => gi ⟨rfl, (decide_eq_false (fun h => h1 h.1)).symm⟩)) ?_
    refine VIf_dec (fun hc0 => ?_) (fun _ => gi ⟨k, sum, hk, Lu, Lc, u, c, eh, os, rfl, hu, U, hc, C, oh, hos, R, s0, s1⟩)
    obtain ⟨hc1, hc2, hc3⟩ := hc0
    have hsl := oh.rows_len lopV_len (by decide)
    refine ⟨fun sum s h => TsSt pu pc ro (k + 1) sum s h, idxI hr (by omega) (by omega) ?_, fun _ sum s h hT => ⟨⟨by omega, by omega⟩, 8 - (k + 1), by omega, gi ⟨k + 1, by omega, by omega, rfl, hT⟩⟩⟩
    rw [Int.toNat_natCast]
    have aidx : ∀ {X : List Ent} {K : Int → Prop}, K (gI bs k) → ∃ b : Addr, sa.a = some b ∧ 0 ≤ (k : Int) ∧ (k : Int) < ((sa.len : Nat) : Int) ∧ ∃ x : Int, H.rd ⟨X, ro⟩ (Addr.add (Addr.add b ((k : Int).toNat * 1)) 0) (Value.int .i64 x) ∧ K x := fun {X K} hK => idxI ar (by omega) (by omega) (by rw [Int.toNat_natCast]; exact hK)
    obtain ⟨add, hadd⟩ : ∃ add, add = gI bs k := ⟨_, rfl⟩
    rw [← hadd] at aidx
    refine join_b (h := ⟨Lu ++ (Lc ++ [eh]), ro⟩) (decide (¬ (0 ≤ gI hs k ∧ gI hs k ≤ 3) ∨ ¬ (0 ≤ add ∧ add ≤ 1000))) (intop_c ⟨_, rfl, VIf_not (fun h => gi ⟨rfl, (decide_eq_true (.inl h)).symm⟩) (fun h => aidx (intop_c ⟨_, rfl, gi ⟨rfl, ?_⟩⟩))⟩) ?_
    · by_cases ha : 0 ≤ add ∧ add ≤ 1000
      · rw [decide_eq_true ha, decide_eq_false (fun hh => hh.elim (fun h2 => h2 h) (fun h2 => h2 ha))]; rfl
      · rw [decide_eq_false ha, decide_eq_true (.inr ha)]; rfl
    refine VIf_dec (fun _ => ret (hpost _)) (fun hok => ?_)
    have hp : 0 ≤ gI hs k ∧ gI hs k ≤ 3 := Classical.byContradiction fun h => hok (.inl h)
    have ha : 0 ≤ add ∧ add ≤ 1000 := Classical.byContradiction fun h => hok (.inr h)
    obtain ⟨p, hpq⟩ : ∃ p : Nat, gI hs k = (p : Int) := ⟨(gI hs k).toNat, by omega⟩
    have hp4 : p < 4 := by omega
    rw [hpq]
    -- both begin
    refine ⟨fun b h => b = false ∧ ∃ Lu Lc u, h = ⟨Lu ++ (Lc ++ [eh]), ro⟩ ∧ UnivAt pu u Lu ∧ UBusy u p k sum add k ∧ uV u p ≤ 16 ∧ CV pc { c with hL := upd1 c.hL p 1, hA := upd1 c.hA p add, hN := upd1 c.hN p (c.D c.W p + 1) } (30 * k + 1) Lc, aidx ?_, ?_⟩
    · obtain ⟨u', e', B', v'⟩ := U.begin (by omega) hp4 ha
      refine univ_begin_c [] (Lc ++ [eh]) rfl hu U.I.ok (fun Lu' hu' => ⟨_, rfl, ?_⟩)
      rw [e'] at hu' ⊢
      refine VIf_nerr (fun h => absurd rfl h) (fun _ => aidx ?_)
      refine cv_begin_ok Lu' [eh] rfl hc (by omega) hp4 (by have := C.n; omega) (C.l p hp4) ha (fun Lc' hc' => ⟨_, rfl, isIfaceV_errV _, gi ⟨rfl, Lu', Lc', u', rfl, hu', B', by omega, hc'⟩⟩)
    have hN4 := C.n
    have CB := C.begin (p := p) (add := add)
    clear hu U hc C
    rintro _ _ _ ⟨rfl, Lu, Lc, u, rfl, hu, U, hV, hc⟩
    refine VIf_b (nomatch ·) (fun _ => ?_)
    -- the row, alone
    refine ⟨fun x h => x = sum ∧ ∃ Lu u, h = ⟨Lu ++ (Lc ++ [eh]), ro⟩ ∧ UnivAt pu u Lu ∧ UIdle u (k + 1) (sum + add),
      ⟨fun n x i h => ∃ K : Nat, i = (K : Int) ∧ K ≤ 20 ∧ n = 20 - K ∧ ∃ Lu u, h = ⟨Lu ++ (Lc ++ [eh]), ro⟩ ∧ UnivAt pu u Lu ∧ ((x = -1 ∧ ∃ m, UBusy u p k sum add m ∧ uV u p + K ≤ 16) ∨ (x = sum ∧ UIdle u (k + 1) (sum + add))), ⟨_, gi ⟨0, rfl, by omega, rfl, Lu, u, rfl, hu, .inl ⟨rfl, k, U, by omega⟩⟩⟩, ?_⟩, ?_⟩
    · clear hu U hV
      rintro n _ x i _ ⟨K, rfl, hK, rfl, Lu, u, rfl, hu, hst⟩
      rcases hst with ⟨rfl, m, U, hV⟩ | ⟨rfl, U⟩
      · refine join_b (h := ⟨Lu ++ (Lc ++ [eh]), ro⟩) true (VIf_dec (fun _ => gi ⟨rfl, rfl⟩) (fun h => absurd (by omega) h)) (VIf_b (fun _ => ?_) (nomatch ·))
        refine univ_step_c [] (Lc ++ [eh]) rfl hu U.I.ok (fun Lu' hu' => ⟨_, _, _, rfl, ?_⟩)
        rcases U.step hp4 with ⟨u', m', e, U', v⟩ | ⟨u', e, U'⟩ <;> rw [e] at hu' ⊢
        · have hv1 : 1 ≤ uV u p := by omega
          refine VIf_nerr (fun h => absurd rfl h) (fun _ => VIf_b (nomatch ·) (fun _ => ⟨⟨by omega, by omega⟩, 20 - (K + 1), by omega, gi ⟨K + 1, by omega, by omega, rfl, Lu', u', rfl, hu', .inl ⟨rfl, m', U', by omega⟩⟩⟩))
        · exact VIf_nerr (fun h => absurd rfl h) (fun _ => VIf_b (fun _ => ⟨⟨by omega, by omega⟩, 20 - (K + 1), by omega, gi ⟨K + 1, by omega, by omega, rfl, Lu', u', rfl, hu', .inr ⟨rfl, U'⟩⟩⟩) (nomatch ·))
      · refine join_b (h := ⟨Lu ++ (Lc ++ [eh]), ro⟩) false (VIf_dec (fun _ => gi ⟨rfl, decide_eq_false (by omega)⟩) (fun _ => gi ⟨rfl, rfl⟩)) (VIf_b (nomatch ·) (fun _ => gi ⟨rfl, Lu, u, rfl, hu, U⟩))
    clear hu U hV
    rintro _ x _ ⟨rfl, Lu, u, rfl, hu, U⟩
    -- who adds for all, alone
    refine ⟨fun y h => y = x ∧ ∃ Lc c, h = ⟨Lu ++ (Lc ++ [eh]), ro⟩ ∧ CV pc c (30 * k + 25) Lc ∧ CIdle c (x + add),
      ⟨fun n y i h => ∃ K : Nat, i = (K : Int) ∧ K ≤ 20 ∧ n = 20 - K ∧ ∃ Lc c, h = ⟨Lu ++ (Lc ++ [eh]), ro⟩ ∧ CV pc c (30 * k + 1 + K) Lc ∧ ((y = -1 ∧ CBusy c p x add ∧ c.hL p ≠ 0 ∧ cmu (c.hL p) + K ≤ 7) ∨ (y = x ∧ CIdle c (x + add))), ⟨_, gi ⟨0, rfl, by omega, rfl, Lc, _, rfl, hc.up (by omega), .inl ⟨rfl, CB, by dsimp only; rw [upd1_same]; omega, by dsimp only; rw [upd1_same]; decide⟩⟩⟩, ?_⟩, ?_⟩
    · clear hc CB
      rintro n _ y i _ ⟨K, rfl, hK, rfl, Lc, c, rfl, hc, hst⟩
      rcases hst with ⟨rfl, B, b0, hm⟩ | ⟨rfl, C⟩
      · refine join_b (h := ⟨Lu ++ (Lc ++ [eh]), ro⟩) true (VIf_dec (fun _ => gi ⟨rfl, rfl⟩) (fun h => absurd (by omega) h)) (VIf_b (fun _ => ?_) (nomatch ·))
        refine cv_stepG Lu [eh] rfl hc (by omega) (fun Lc' c' b g e hc' hx => ⟨_, _, _, rfl, ?_⟩)
        rcases hx with ⟨_, _, _, _, hi0⟩ | ⟨rfl, q', hq', q4, qn, h0, hl, hG⟩
        · exact absurd (hi0 p rfl (by have := B.n; omega)) b0
        have hpp : q' = p := by omega
        subst hpp
        rcases B.step hc.ci hc'.ci q4 hl hG with ⟨rfl, B', b0', mu⟩ | ⟨rfl, rfl, C'⟩
        · exact VIf_nerr (fun h => absurd rfl h) (fun _ => VIf_b (nomatch ·) (fun _ => ⟨⟨by omega, by omega⟩, 20 - (K + 1), by omega, gi ⟨K + 1, by omega, by omega, rfl, Lc', c', rfl, hc'.up (by omega), .inl ⟨rfl, B', b0', by omega⟩⟩⟩))
        · exact VIf_nerr (fun h => absurd rfl h) (fun _ => VIf_b (fun _ => ⟨⟨by omega, by omega⟩, 20 - (K + 1), by omega, gi ⟨K + 1, by omega, by omega, rfl, Lc', c', rfl, hc'.up (by omega), .inr ⟨rfl, C'⟩⟩⟩) (nomatch ·))
      · exact join_b (h := ⟨Lu ++ (Lc ++ [eh]), ro⟩) false (VIf_dec (fun _ => gi ⟨rfl, decide_eq_false (by omega)⟩) (fun _ => gi ⟨rfl, rfl⟩)) (VIf_b (nomatch ·) (fun _ => gi ⟨rfl, Lc, c, rfl, hc.up (by omega), C⟩))
    clear hc CB
    rintro _ y _ ⟨rfl, Lc, c, rfl, hc, C⟩
    refine join_b (h := ⟨Lu ++ (Lc ++ [eh]), ro⟩) false (VIf_ne (fun h => absurd rfl h) (fun _ => gi ⟨rfl, by simp⟩)) (VIf_b (nomatch ·) (fun _ => aidx ⟨⟨by omega, by omega⟩, aidx ⟨⟨by omega, by omega⟩, ⟨by omega, by omega⟩, ⟨by omega, by omega⟩, ?_⟩⟩))
    refine app_row grows_ops (vs := lopV ⟨p, 0, add, y, 2 * k, 2 * k + 1⟩) rfl ⟨rfl, rfl, rfl, rfl, rfl, rfl, trivial⟩ (Lu ++ Lc) eh [] (by simp) oh (by omega) (fun s2 e2 o2 _ => ?_)
    refine cv_crash Lu [e2] (by simp) hc (fun Lc' hc' => ⟨rfl, ?_⟩)
    have C' := C.crash hc.ci keep
    refine cv_sum hc' (fun e he => by simp [he]) (by omega) ⟨_, rfl, ?_⟩
    rw [C'.s]
    refine VIf_ne (fun h => absurd rfl h) (fun _ => gi ⟨Lu, Lc', u, _, e2, os ++ [⟨p, 0, add, y, 2 * k, 2 * k + 1⟩], rfl, hu, U, hc'.up (by omega), C', by simpa [List.flatMap_append] using o2, by simp [hos], ?_, by omega, by omega⟩)
    have := R.more hp4 ha
    rw [hos] at this
    exact this
  -- at the end
  clear hu hc
  rintro _ s _ ⟨k, sum, hk, Lu, Lc, u, c, eh, os, rfl, hu, U, hc, C, oh, hos, R, s0, s1⟩
  have hsl := oh.rows_len lopV_len (by decide)
  obtain ⟨hok, hl⟩ := R.row (by omega)
  refine SemCall.frz (Lu ++ Lc) eh [] (by simp) oh (fun ro3 m3 r3 => lin_row_c r3 oh.cap_le (fun hc => absurd (lcheck_zero.2 hok) hc) (fun _ hn => by obtain ⟨l, hl⟩ := hl; rw [hl] at hn; cases hn) (fun l s' e' _ _ o' => ⟨true, s', none, rfl, ?_⟩))
  refine ⟨fun b h => b = true, VIf_nil (VIf_b (fun _ => ?_) (nomatch ·)), fun _ b h hb => by subst hb; exact ret (hpost _)⟩
  refine univ_order_c hu (fun e he => by simp [he]) U.I.cellb (fun s2 e2 o2 => ⟨s2, rfl, gi ?_⟩)
  have l2 := o2.sl_len
  rw [ints_length, U.order] at l2
  simp only [beq_iff_eq]
  omega
end Go.Proofs.Ytockhbbpcbcenaa
