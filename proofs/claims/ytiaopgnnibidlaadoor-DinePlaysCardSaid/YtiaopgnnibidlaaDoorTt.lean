import Derived.Test.YtiaopgnnibidlaaDoorTs
import Derived.Test.YtiaopgnnibidlaaDoorEngJ
namespace Go.Proofs.YtiaopgnnibidlaaDoor
open Go.Eng
set_option maxRecDepth 20000
/-! ### the law -/
theorem rows_up {ro ro' : Addr → Option Value} {st : SV} {rows : List (SV × List Int)} (hr : RdRowsOf ⟨[], ro⟩ st rows) (h : ∀ a v, ro a = some v → ro' a = some v) {own : List Ent} : RdRowsOf ⟨own, ro'⟩ st rows := hr.mono (by simp) h
theorem len_two {l : List Int} (h : l.length = 2) : ∃ a b, l = [a, b] := match l, h with | [a, b], _ => ⟨a, b, rfl⟩
def DpSt (p r19 n : Nat) (ro : Addr → Option Value) (h : H) : Prop :=
  ∃ L t G Hs As Dt ro', h = ⟨L ++ [tbE r19 G Hs As Dt], ro'⟩ ∧ (∀ a v, ro a = some v → ro' a = some v) ∧ TbR ro' G Hs As Dt t ∧ TabAt p t L ∧ t.n = n
theorem setF_n {t : TS} {k w a : Nat} {d : Bool} : (t.setF k w a d).n = t.n := rfl
theorem tLine_n {t : TS} {i l : Nat} : (tLine t i l).1.n = t.n := by
  unfold tLine
  repeat' (first | rfl | split)
set_option maxHeartbeats 4000000 in
theorem dinePlays_c {n : Int} {st : SV} {rows : List (SV × List Int)} {ro : Addr → Option Value} {post : Value → H → Prop} (hG : HasErrT ro) (hr : RdRowsOf ⟨[], ro⟩ st rows) (hpost : ∀ h, post (.bool true) h) :
    SemCall Tryd.prog 3 (List.toArray [.int .i64 n, .slice st.a st.len st.cap]) ⟨[], ro⟩ post := by
  refine f3_call _ _ _ post ?_
  refine tab_new_c (fun hc => ⟨_, _, rfl, join_or ?_⟩) (fun p L hs c0 c1 => ⟨_, none, rfl, join_or ?_⟩)
  · rw [show decide (n < 3 ∨ n > 6) = true from decide_eq_true (by omega)]
    exact VIf_b (fun _ => same_error_c hG ⟨_, rfl, ret (hpost _)⟩) (nomatch ·)
  rw [show decide (n < 3 ∨ n > 6) = false from decide_eq_false (by omega)]
  obtain ⟨N, rfl⟩ : ∃ N : Nat, n = (N : Int) := ⟨n.toNat, by omega⟩
  rw [Int.toNat_natCast] at hs
  refine VIf_b (nomatch ·) (fun _ => VIf_nnil (ref_newtable_c (by omega) (by omega) (fun G Hs As Dt ro0 hm0 hT0 => ⟨G, Hs, As, Dt, rfl, ?_⟩)))
  rw [List.nil_append]
  intro r19 _
  refine tb_put (r := r19) (a0 := G) (a1 := Hs) (a2 := As) (a3 := Dt) (z0 := ⟨none, 0, 0⟩) (z1 := ⟨none, 0, 0⟩) (z2 := ⟨none, 0, 0⟩) (z3 := ⟨none, 0, 0⟩) L [] rfl ?_
  refine ⟨fun h => DpSt p r19 N ro h, ⟨fun m i h => DpSt p r19 N ro h ∧ 0 ≤ i ∧ i ≤ 200 ∧ m = (200 - i).toNat, ⟨200, gi ⟨⟨L, _, G, Hs, As, Dt, ro0, rfl, hm0, hT0, hs, rfl⟩, by omega, by omega, rfl⟩⟩, ?_⟩, ?_⟩
  rotate_left
  · rintro _ _ ⟨L, t, G, Hs, As, Dt, ro', rfl, hm, hT, hs, hn⟩
    refine join_bk (h := ⟨L ++ [tbE r19 G Hs As Dt], ro'⟩) true (ret (hpost _)) ?_
    refine tab_guest_c hs (fun _ h => by simp [h]) ⟨_, rfl, ?_⟩
    rw [if_neg (by omega)]
    refine VIf_eq (fun _ => ?_) (fun h => absurd rfl h)
    refine tab_guest_c hs (fun _ h => by simp [h]) ⟨_, rfl, ?_⟩
    rw [if_neg (by omega)]
    exact gi ⟨rfl, rfl⟩
  rintro k _ i h ⟨⟨L, t, G, Hs, As, Dt, ro', rfl, hm, hT, hs, hn⟩, hi0, hi1, rfl⟩
  have hG' := hG.up hm
  have hr' : ∀ {own}, RdRowsOf ⟨own, ro'⟩ st rows := rows_up hr hm
  refine join_and (VIf_dec (fun hi => ?_) (fun _ => gi ⟨L, t, G, Hs, As, Dt, ro', rfl, hm, hT, hs, hn⟩))
  refine ⟨fun h => DpSt p r19 N ro h, ?_, fun _ h hS => ⟨⟨by omega, by omega⟩, _, by omega, gi ⟨hS, by omega, by omega, rfl⟩⟩⟩
  refine RdRowsOf.idx (h := ⟨L ++ [tbE r19 G Hs As Dt], ro'⟩) hr' hi0 hi.1 (fun l ys hly _ => ?_)
  have rd : ∀ {own ro2}, (∀ a v, ro a = some v → ro2 a = some v) → RdSl ⟨own, ro2⟩ l (ints ys) := fun {own ro2} h => (rows_up hr (own := own) h).2 (l, ys) (List.mem_of_getElem? hly)
  have hyl : l.len = ys.length := by have := (rd (own := []) hm).len; rwa [ints_length] at this
  refine VIf_eq (fun _ => gi ⟨L, t, G, Hs, As, Dt, ro', rfl, hm, hT, hs, hn⟩) (fun hl0 => ?_)
  refine RdSl.idx (h := ⟨L ++ [tbE r19 G Hs As Dt], ro'⟩) (rd hm) (by omega) (by omega) (fun g hg => ⟨⟨by omega, by omega⟩, in_c ⟨_, rfl, ?_⟩⟩)
  obtain ⟨e0, he0⟩ : ∃ e0 : Int, e0 = (if 0 ≤ g ∧ g ≤ (N : Int) - 1 then 0 else 1) := ⟨_, rfl⟩
  refine ⟨fun e h => e = e0 ∧ h = ⟨L ++ [tbE r19 G Hs As Dt], ro'⟩, VIf_not (fun hc => gi ⟨by rw [he0, if_neg hc], rfl⟩) (fun hc => gi ⟨by rw [he0, if_pos hc], rfl⟩), ?_⟩
  rintro _ ee _ ⟨hee0, rfl⟩
  rw [hee0]
  clear hee0 ee
  -- what is told behind it
  have fin : ∀ {L : List Ent} {t : TS} {G Hs As Dt : SV} {ro' : Addr → Option Value}, (∀ a v, ro a = some v → ro' a = some v) → TbR ro' G Hs As Dt t → TabAt p t L → t.n = N → f3_J6 (N : Int) post (some (Addr.mk p 0 none)) r19 (fun h => DpSt p r19 N ro h) ⟨L ++ [tbE r19 G Hs As Dt], ro'⟩ := by
    intro L t G Hs As Dt ro' hm hT hs hn
    have hS : DpSt p r19 N ro ⟨L ++ [tbE r19 G Hs As Dt], ro'⟩ := ⟨L, t, G, Hs, As, Dt, ro', rfl, hm, hT, hs, hn⟩
    have h36 : 3 ≤ t.n ∧ t.n ≤ 6 := ⟨hs.1, hs.2.1⟩
    refine tab_forks_c hs (fun _ h => by simp [h]) (fun sw sd ew ed ow od => ⟨sw, sd, rfl, ?_⟩)
    have lw := ow.sl_len
    have ld := od.sl_len
    rw [ints_length, rm_len] at lw
    rw [List.length_map, rm_len] at ld
    refine join_bk (h := ⟨L ++ [tbE r19 G Hs As Dt] ++ [ew, ed], ro'⟩) false ?_ (rS0 (tbE r19 G Hs As Dt) (by simp) rfl rfl (same_ints_c (RdSl.of_own (e := ew) (by simp) ow) hT.h.ro (by omega) ⟨_, rfl, ?_⟩))
    rotate_left
    · rw [decide_eq_true rfl]
      refine VIf_nb (nomatch ·) (fun _ => gi ⟨rfl, ?_⟩)
      rw [ld, hn]; simp
    refine VIf_b (nomatch ·) (fun _ => ?_)
    refine ⟨fun h => DpSt p r19 N ro h, ⟨fun m k h => h = ⟨L ++ [tbE r19 G Hs As Dt] ++ [ew, ed], ro'⟩ ∧ 0 ≤ k ∧ k ≤ N ∧ m = (N - k).toNat, ⟨_, gi ⟨rfl, by omega, by omega, rfl⟩⟩, ?_⟩, fun _ h hS => gi hS⟩
    rintro m _ k _ ⟨rfl, k0, k1, rfl⟩
    refine VIf_dec (fun hk => ?_) (fun _ => ⟨_, Gh.drop (by simp), hS⟩)
    obtain ⟨q, rfl⟩ : ∃ q : Nat, k = (q : Int) := ⟨k.toNat, by omega⟩
    have hq : q < t.n := by omega
    obtain ⟨bg, xg, hbg, hxg, rg⟩ := RdSl.at (h := ⟨L ++ [tbE r19 G Hs As Dt] ++ [ew, ed], ro'⟩) hT.g.ro (i := (q : Int)) (by omega) (by have := hT.g.len; rw [ints_length, rm_len] at this; omega)
    obtain ⟨bd, xd, hbd, hxd, rdd⟩ := RdSl.at (h := ⟨L ++ [tbE r19 G Hs As Dt] ++ [ew, ed], ro'⟩) hT.d.ro (i := (q : Int)) (by omega) (by have := hT.d.len; rw [ints_length, rm_len] at this; omega)
    rw [Int.toNat_natCast, rm_get _ hq] at hxg hxd
    cases hxg; cases hxd
    have lg := hT.g.len
    have ld2 := hT.d.len
    rw [ints_length, rm_len] at lg ld2
    obtain ⟨be, hbe⟩ : ∃ be, sd.a = some be := (RdSl.of_own (h := ⟨L ++ [tbE r19 G Hs As Dt] ++ [ew, ed], ro'⟩) (e := ed) (by simp) od).addr (by rw [List.length_map, rm_len]; omega)
    have rb : H.rd ⟨L ++ [tbE r19 G Hs As Dt] ++ [ew, ed], ro'⟩ (Addr.add (Addr.add be (((q : Int)).toNat * 1)) 0) (.bool (t.d q)) := by
      have := (RdSl.of_own (h := ⟨L ++ [tbE r19 G Hs As Dt] ++ [ew, ed], ro'⟩) (e := ed) (by simp) od).get hbe (i := q) (v := .bool (t.d q)) (by rw [List.getElem?_map, rm_get _ hq]; rfl)
      simpa [Addr.add_zero'] using this
    have gq : (if 0 ≤ (q : Int) ∧ (q : Int) ≤ (t.n : Int) - 1 then t.g ((q : Int)).toNat else -1) = t.g q := by rw [if_pos (by omega), Int.toNat_natCast]
    have fl : (!(t.d q == ((if t.d q then (1 : Int) else 0) == 1))) = false := by cases t.d q <;> rfl
    refine ⟨fun b h => b = false ∧ h = ⟨L ++ [tbE r19 G Hs As Dt] ++ [ew, ed], ro'⟩, ?_, ?_⟩
    rotate_left
    · rintro _ b _ ⟨rfl, rfl⟩
      exact VIf_b (nomatch ·) (fun _ => ⟨⟨by omega, by omega⟩, _, by omega, gi ⟨rfl, by omega, by omega, rfl⟩⟩)
    have gc : ∀ {K : Value → H → Prop}, K (.int .i64 (t.g q)) ⟨L ++ [tbE r19 G Hs As Dt] ++ [ew, ed], ro'⟩ → SemCall Tryd.prog 15 (List.toArray [.pointer (some (Addr.mk p 0 none)), .int .i64 (q : Int)]) ⟨L ++ [tbE r19 G Hs As Dt] ++ [ew, ed], ro'⟩ K := fun hK => tab_guest_c hs (fun _ h => by simp [h]) (by rw [gq]; exact hK)
    repeat' first
      | exact gi ⟨fl, rfl⟩
      | exact VIf_ne (fun h => absurd rfl h) (fun _ => ⟨be, hbe, by omega, by omega, ⟨t.d q, rb, rS0 (tbE r19 G Hs As Dt) (by simp) rfl rfl ⟨bd, hbd, by omega, by omega, _, rdd, gi ⟨fl, rfl⟩⟩⟩, rS0 (tbE r19 G Hs As Dt) (by simp) rfl rfl ⟨bd, hbd, by omega, by omega, ⟨t.d q, rb, _, rdd, gi ⟨fl, rfl⟩⟩, ⟨_, rdd, t.d q, rb, gi ⟨fl, rfl⟩⟩⟩⟩)
      | refine gc ⟨_, rfl, ?_⟩
      | refine rS0 (tbE r19 G Hs As Dt) (by simp) rfl rfl ⟨bg, hbg, by omega, by omega, ?_⟩
      | refine ⟨_, rg, ?_⟩
      | refine ⟨?_, ?_⟩
  have lg := hT.g.len
  rw [ints_length, rm_len] at lg
  refine ⟨fun e h => ∃ L t G Hs As Dt ro', h = ⟨L ++ [tbE r19 G Hs As Dt], ro'⟩ ∧ (∀ a v, ro a = some v → ro' a = some v) ∧ TbR ro' G Hs As Dt t ∧ TabAt p t L ∧ t.n = N ∧ (((l.len : Nat) : Int) = 1 → e = e0), VIf_eq (fun hl => ?_) (fun _ => gi ⟨L, t, G, Hs, As, Dt, ro', rfl, hm, hT, hs, hn, fun _ => rfl⟩), ?_⟩
  · obtain ⟨y0, y1, rfl⟩ : ∃ y0 y1, ys = [y0, y1] := len_two (by omega)
    simp only [Int.toNat_zero, List.getElem?_cons_zero, Option.some.injEq] at hg
    subst hg
    refine RdSl.idx (h := ⟨L ++ [tbE r19 G Hs As Dt], ro'⟩) (rd hm) (by omega) (by omega) (fun z hz => ?_)
    refine ⟨fun w h => w = (if z ≠ 0 then 2 else 0) ∧ h = ⟨L ++ [tbE r19 G Hs As Dt], ro'⟩, VIf_ne (fun h => gi ⟨by rw [if_pos h], rfl⟩) (fun h => gi ⟨by rw [if_neg (not_not_intro h)], rfl⟩), ?_⟩
    rintro _ was _ ⟨hwas, rfl⟩
    have hw2 : was = 0 ∨ was = 2 := by rw [hwas]; split <;> simp
    -- the document's error
    obtain ⟨e1, he1⟩ : ∃ e1 : Int, e1 = (if 0 ≤ y0 ∧ y0 ≤ (N : Int) - 1 then (if t.g y0.toNat ≠ was then 7 else 0) else 1) := ⟨_, rfl⟩
    refine join_bk (h := ⟨L ++ [tbE r19 G Hs As Dt], ro'⟩) (decide (0 ≤ y0 ∧ y0 ≤ (N : Int) - 1 ∧ t.g y0.toNat ≠ was)) ?_ (VIf_eq (fun hz0 => ?_) (fun hz0 => gi ⟨rfl, ?_⟩))
    rotate_left
    · have hin : 0 ≤ y0 ∧ y0 ≤ (N : Int) - 1 := Classical.byContradiction fun h => by rw [he0, if_neg h] at hz0; exact absurd hz0 (by decide)
      obtain ⟨q, rfl⟩ : ∃ q : Nat, y0 = (q : Int) := ⟨y0.toNat, by omega⟩
      refine rS0 (tbE r19 G Hs As Dt) (by simp) rfl rfl (rm_at hT.g (by omega) (gi ⟨rfl, ?_⟩))
      rw [Int.toNat_natCast]
      have : (decide (t.g q ≠ was)) = decide (0 ≤ (q : Int) ∧ (q : Int) ≤ (N : Int) - 1 ∧ t.g q ≠ was) := decide_eq_decide.2 ⟨fun h => ⟨hin.1, hin.2, h⟩, fun h => h.2.2⟩
      rw [← this]
      by_cases hx : t.g q = was
      · simp [hx]
      · rw [decide_eq_true hx]; simpa using hx
    · refine (decide_eq_false fun h => hz0 ?_).symm
      rw [he0, if_pos ⟨h.1, h.2.1⟩]
    refine ⟨fun e h => e = e1 ∧ h = ⟨L ++ [tbE r19 G Hs As Dt], ro'⟩, VIf_dec (fun h => gi ⟨?_, rfl⟩) (fun h => gi ⟨?_, rfl⟩), ?_⟩
    · rw [he1, if_pos ⟨h.1, h.2.1⟩, if_pos h.2.2]
    · rw [he1, he0]
      by_cases hin : 0 ≤ y0 ∧ y0 ≤ (N : Int) - 1
      · rw [if_pos hin, if_pos hin, if_neg (fun hx => h ⟨hin.1, hin.2, hx⟩)]
      · rw [if_neg hin, if_neg hin]
    rintro _ ee _ ⟨hee1, rfl⟩
    rw [hee1]
    clear hee1 ee
    -- the guests then
    refine ⟨fun h => ∃ G' ro2, (∀ a v, ro' a = some v → ro2 a = some v) ∧ RdSl ⟨[], ro2⟩ G' (ints (rm t.n (if e1 = 0 then updN t.g y0.toNat (if was = 2 then 0 else 1) else t.g))) ∧ h = ⟨L ++ [tbE r19 G' Hs As Dt], ro2⟩, VIf_eq (fun hz1 => ?_) (fun hz1 => gi ⟨G, ro', fun _ _ h => h, by rw [if_neg hz1]; exact hT.g, rfl⟩), ?_⟩
    · have hin : 0 ≤ y0 ∧ y0 ≤ (N : Int) - 1 := Classical.byContradiction fun h => by rw [he1, if_neg h] at hz1; exact absurd hz1 (by decide)
      have h36 : t.n ≤ 6 := hs.2.1
      rw [if_pos hz1]
      refine rS0 (tbE r19 G Hs As Dt) (by simp) rfl rfl (app_new hT.g.ro (by omega) (fun s' e' o l' hf => ?_))
      refine wr_at (L ++ [tbE r19 G Hs As Dt]) e' [] rfl o hin.1 (by omega) (fun e2 o2 hid2 => ?_)
      have gq : ∀ {e3 : Ent} {v : Int}, e3.id = e'.id → OwnsSl 1 s' e3 (ints ((rm t.n t.g).set y0.toNat v)) → v = (if was = 2 then 0 else 1) → ∃ h2, Gh ⟨L ++ tbE r19 s' Hs As Dt :: [e3], ro'⟩ h2 ∧ ∃ G' ro2, (∀ a v, ro' a = some v → ro2 a = some v) ∧ RdSl ⟨[], ro2⟩ G' (ints (rm t.n (updN t.g y0.toNat (if was = 2 then 0 else 1)))) ∧ h2 = ⟨L ++ [tbE r19 G' Hs As Dt], ro2⟩ := by
        intro e3 v hid o3 hv
        have hf3 : ∀ a v, ro' a = some v → e3.id ≠ some a.block := fun a v h => by rw [hid]; exact hf a v h
        have g1 := Gh.freeze (L ++ [tbE r19 s' Hs As Dt]) [] ro' e3 hf3
        refine ⟨⟨L ++ [tbE r19 s' Hs As Dt], Go.Eng.frozen e3 ro'⟩, by simpa using g1, s', _, frozen_mono hf3, ?_, rfl⟩
        rw [rm_set, hv] at o3
        exact RdSl.frozen o3
      refine VIf_eq (fun hw => ?_) (fun hw => ?_)
      · refine wr_at (L ++ [tbE r19 G Hs As Dt]) e2 [] rfl o2 hin.1 (by omega) (fun e3 o3 hid3 => ?_)
        rw [List.append_assoc]
        refine tb_w s' Hs As Dt rfl (by decide) rfl (gq (hid3.trans hid2) (v := 0) (by rw [List.set_set] at o3; exact o3) (by rw [if_pos hw]))
      · rw [List.append_assoc]
        exact tb_w s' Hs As Dt rfl (by decide) rfl (gq hid2 (v := 1) o2 (by rw [if_neg hw]))
    rintro _ _ ⟨G', ro2, q2, hg', rfl⟩
    have hm2 : ∀ a v, ro a = some v → ro2 a = some v := fun a v h => q2 a v (hm a v h)
    have hT2 := hT.up q2
    have hG2 := hG.up hm2
    have call : ∀ {t2 : TS} {e2 : Int}, t2 = { t with g := if e1 = 0 then updN t.g y0.toNat (if was = 2 then 0 else 1) else t.g } → e2 = e1 → ∀ L', TabAt p t2 L' → ∀ {K : Value → H → Prop}, (∀ h, DpSt p r19 N ro h → h = ⟨[] ++ (L' ++ [tbE r19 G' Hs As Dt]), ro2⟩ → K (.bool true) h) → SemCall Tryd.prog 6 (List.toArray [errV (eno 61 e2), .int .i64 e1]) ⟨[] ++ (L' ++ [tbE r19 G' Hs As Dt]), ro2⟩ K := by
      intro t2 e2 h1 h2 L' hs' K hK
      subst h1
      rw [h2]
      refine same_error_c hG2 ?_
      rw [decide_eq_true rfl]
      exact hK _ ⟨L', { t with g := if e1 = 0 then updN t.g y0.toNat (if was = 2 then 0 else 1) else t.g }, G', Hs, As, Dt, ro2, rfl, hm2, ⟨hg', hT2.h, hT2.a, hT2.d⟩, hs', hn⟩ rfl
    have hung : was = 0 → (tHunger t y0) = ({ t with g := if e1 = 0 then updN t.g y0.toNat (if was = 2 then 0 else 1) else t.g }, e1) := by
      intro hw
      unfold tHunger
      rw [he1, hw, ← hn]
      by_cases hin : 0 ≤ y0 ∧ y0 ≤ (t.n : Int) - 1
      · rw [if_neg (not_not_intro hin), if_pos hin]
        by_cases hx : t.g y0.toNat ≠ 0
        · rw [if_pos hx, if_pos hx, if_neg (by decide)]
        · rw [if_neg hx, if_neg hx, if_pos rfl, if_neg (by decide)]
      · rw [if_pos hin, if_neg hin, if_neg (by decide)]
    have rest : was = 2 → (tRest t y0) = ({ t with g := if e1 = 0 then updN t.g y0.toNat (if was = 2 then 0 else 1) else t.g }, e1) := by
      intro hw
      unfold tRest
      rw [he1, hw, ← hn]
      by_cases hin : 0 ≤ y0 ∧ y0 ≤ (t.n : Int) - 1
      · rw [if_neg (not_not_intro hin), if_pos hin]
        by_cases hx : t.g y0.toNat ≠ 2
        · rw [if_pos hx, if_pos hx, if_neg (by decide)]
        · rw [if_neg hx, if_neg hx, if_pos rfl, if_pos rfl]
      · rw [if_pos hin, if_neg hin, if_neg (by decide)]
    refine ⟨fun b h => b = false ∧ DpSt p r19 N ro h, VIf_eq (fun hw => ?_) (fun hw => VIf_eq (fun hw2 => ?_) (fun hw3 => absurd hw2 (by omega))), ?_⟩
    · refine tab_hunger_c [] _ rfl hs (fun L' hs' => ⟨_, rfl, ?_⟩)
      rw [hung hw] at hs' ⊢
      refine call rfl rfl L' hs' (fun h hS _ => ⟨_, rfl, VIf_nb (nomatch ·) (fun _ => VIf_eq (fun h => ?_) (fun _ => gi ⟨rfl, hS⟩))⟩)
      omega
    · refine tab_rest_c [] _ rfl hs (fun L' hs' => ⟨_, rfl, ?_⟩)
      rw [rest hw2] at hs' ⊢
      exact call rfl rfl L' hs' (fun h hS _ => ⟨_, rfl, gi ⟨rfl, hS⟩⟩)
    rintro _ b h ⟨rfl, L, t, G, Hs, As, Dt, ro', rfl, hm, hT, hs, hn⟩
    exact VIf_b (nomatch ·) (fun _ => gi ⟨L, t, G, Hs, As, Dt, ro', rfl, hm, hT, hs, hn, fun h => by omega⟩)
  rintro _ e _ ⟨L, t, G, Hs, As, Dt, ro', rfl, hm, hT, hs, hn, hee⟩
  refine ⟨fun h => ∃ L t G Hs As Dt ro', h = ⟨L ++ [tbE r19 G Hs As Dt], ro'⟩ ∧ (∀ a v, ro a = some v → ro' a = some v) ∧ TbR ro' G Hs As Dt t ∧ TabAt p t L ∧ t.n = N, VIf_eq (fun hl1 => ?_) (fun _ => gi ⟨L, t, G, Hs, As, Dt, ro', rfl, hm, hT, hs, hn⟩), ?_⟩
  rotate_left
  · rintro _ _ ⟨L, t, G, Hs, As, Dt, ro', rfl, hm, hT, hs, hn⟩
    exact fin hm hT hs hn
  rw [hee hl1, he0]
  have h36 : 3 ≤ t.n ∧ t.n ≤ 6 := ⟨hs.1, hs.2.1⟩
  obtain ⟨t2, ht2⟩ : ∃ t2, t2 = tStep t g := ⟨_, rfl⟩
  refine ⟨fun d h => d = t2.2.1 ∧ ∃ G' H' A' D' ro2, (∀ a v, ro' a = some v → ro2 a = some v) ∧ TbR ro2 G' H' A' D' t2.1 ∧ h = ⟨L ++ [tbE r19 G' H' A' D'], ro2⟩, VIf_eq (fun hz => ?_) (fun hz => gi ?_), ?_⟩
  · have hin : 0 ≤ g ∧ g ≤ (N : Int) - 1 := Classical.byContradiction fun h => by rw [if_neg h] at hz; exact absurd hz (by decide)
    obtain ⟨q, rfl⟩ : ∃ q : Nat, g = (q : Int) := ⟨g.toNat, by omega⟩
    have e2 : t2 = ((tLine t q (prv t.n q)).1, (tLine t q (prv t.n q)).2, 0) := by rw [ht2]; unfold tStep; rw [if_neg (not_not_intro ⟨hin.1, by omega⟩), Int.toNat_natCast]
    rw [e2]
    refine tb_get (a0 := G) (a1 := Hs) (a2 := As) (a3 := Dt) (by simp) ?_
    refine ref_steptable_c hT h36.1 h36.2 (by omega) (fun G' H' A' D' ro2 q2 hT2 => ⟨G', H', A', D', _, rfl, ?_⟩)
    refine tb_put (r := r19) (a0 := G') (a1 := H') (a2 := A') (a3 := D') (z0 := G) (z1 := Hs) (z2 := As) (z3 := Dt) L [] rfl ?_
    exact gi ⟨rfl, G', H', A', D', ro2, q2, hT2, rfl⟩
  · have hin : ¬ (0 ≤ g ∧ g ≤ (N : Int) - 1) := fun h => hz (by rw [if_pos h])
    have e2 : t2 = (t, false, 1) := by rw [ht2]; unfold tStep; rw [if_pos (by rw [hn]; exact hin)]
    rw [e2]
    exact ⟨rfl, G, Hs, As, Dt, ro', fun _ _ h => h, hT, rfl⟩
  rintro _ d _ ⟨rfl, G', H', A', D', ro2, q2, hT2, rfl⟩
  have hm2 : ∀ a v, ro a = some v → ro2 a = some v := fun a v h => q2 a v (hm a v h)
  refine tab_step_c [] _ rfl hs (fun L1 hs1 => ⟨_, _, rfl, ?_⟩)
  rw [← ht2] at hs1 ⊢
  have hn2 : t2.1.n = N := by
    rw [ht2]; unfold tStep
    split
    · exact hn
    · exact tLine_n.trans hn
  have he2 : t2.2.2 = (if 0 ≤ g ∧ g ≤ (N : Int) - 1 then 0 else 1) := by
    rw [ht2]; unfold tStep
    rw [hn]
    by_cases hin : 0 ≤ g ∧ g ≤ (N : Int) - 1
    · rw [if_neg (not_not_intro hin), if_pos hin]
    · rw [if_pos hin, if_neg hin]
  refine ⟨fun b h => b = false ∧ ∃ L t G Hs As Dt ro', h = ⟨L ++ [tbE r19 G Hs As Dt], ro'⟩ ∧ (∀ a v, ro a = some v → ro' a = some v) ∧ TbR ro' G Hs As Dt t ∧ TabAt p t L ∧ t.n = N, same_error_c (hG.up hm2) ⟨_, rfl, VIf_nb (fun h => absurd he2 (of_decide_eq_false h)) (fun _ => gi ⟨by simp, L1, t2.1, G', H', A', D', ro2, rfl, hm2, hT2, hs1, hn2⟩)⟩, ?_⟩
  rintro _ b h ⟨rfl, hS⟩
  exact VIf_b (nomatch ·) (fun _ => gi hS)
end Go.Proofs.YtiaopgnnibidlaaDoor
