import Derived.Test.YtnepjdobknjecaaL7
namespace Go.Proofs.Ytnepjdobknjecaa
open Go.Eng
set_option maxRecDepth 20000
/-! ### a row is good -/
structure GoodI (k : Int) (os : List LOp) (xs : List Int) : Prop where
  len : xs.length = os.length
  rg : ∀ (i : Nat) x, xs[i]? = some x → 0 ≤ x ∧ x < os.length
  df : ∀ (i j : Nat) x y, xs[i]? = some x → xs[j]? = some y → j ≠ i → y ≠ x
  ord : ∀ (i j : Nat) x y, i < j → xs[i]? = some x → xs[j]? = some y → ¬ (lat os y.toNat).too ≤ (lat os x.toNat).frm
  run : lruns k (lin0 k) (xs.map fun x => lat os x.toNat)
theorem GoodI.good {k : Int} {os : List LOp} {xs : List Int} (h : GoodI k os xs) : ∃ l : List Nat, xs = l.map Int.ofNat ∧ LGood k os l := by
  have hx : ∀ x ∈ xs, 0 ≤ x ∧ x < os.length := fun x hx => by
    obtain ⟨i, hi⟩ := List.mem_iff_getElem?.1 hx
    exact h.rg i x hi
  have hlt : ∀ i ∈ xs.map Int.toNat, i < os.length := fun i hi => by
    obtain ⟨x, hx1, rfl⟩ := List.mem_map.1 hi
    have := hx x hx1; omega
  refine ⟨xs.map Int.toNat, ?_, ?_, ?_, hlt, ?_, ?_⟩
  · rw [List.map_map]
    refine (List.map_id xs).symm.trans (List.map_congr_left fun x hx1 => ?_)
    have := hx x hx1
    simp only [Function.comp, id]
    exact (Int.toNat_of_nonneg this.1).symm
  · simpa using h.len
  · refine List.nodup_iff_pairwise_ne.2 ?_
    rw [List.pairwise_map, List.pairwise_iff_getElem]
    intro i j hi hj hij he
    have e1 := List.getElem?_eq_getElem hi
    have e2 := List.getElem?_eq_getElem hj
    have := h.rg i _ e1
    have := h.rg j _ e2
    exact h.df i j _ _ e1 e2 (by omega) (by omega)
  · rw [List.pairwise_map, List.pairwise_iff_getElem]
    intro i j hi hj hij oa ob ha hb
    have := h.ord i j _ _ hij (List.getElem?_eq_getElem hi) (List.getElem?_eq_getElem hj)
    rw [lat_some ha, lat_some hb] at this
    exact this
  · rw [lat_fm hlt, List.map_map]
    exact h.run
theorem LGood.goodI {k : Int} {os : List LOp} {l : List Nat} (h : LGood k os l) : GoodI k os (l.map Int.ofNat) := by
  have hg : ∀ (i : Nat) x, (l.map Int.ofNat)[i]? = some x → ∃ m, l[i]? = some m ∧ x = Int.ofNat m := fun i x hx => by
    rw [List.getElem?_map, Option.map_eq_some_iff] at hx
    obtain ⟨m, h1, h2⟩ := hx
    exact ⟨m, h1, h2.symm⟩
  have hp := List.nodup_iff_pairwise_ne.1 h.nd
  rw [List.pairwise_iff_getElem] at hp
  have ho := h.ord
  rw [List.pairwise_iff_getElem] at ho
  refine ⟨by simpa using h.len, fun i x hx => ?_, fun i j x y hx hy hij he => ?_, fun i j x y hij hx hy => ?_, ?_⟩
  · obtain ⟨m, h1, rfl⟩ := hg i x hx
    have := h.lt m (List.mem_of_getElem? h1)
    exact ⟨by simp, by simpa using this⟩
  · obtain ⟨m, h1, rfl⟩ := hg i x hx
    obtain ⟨m2, h2, rfl⟩ := hg j y hy
    obtain ⟨a1, a2⟩ := List.getElem?_eq_some_iff.1 h1
    obtain ⟨b1, b2⟩ := List.getElem?_eq_some_iff.1 h2
    have he : m2 = m := Int.ofNat.inj he
    rcases Nat.lt_or_gt_of_ne hij with h | h
    · exact hp j i b1 a1 h (by omega)
    · exact hp i j a1 b1 h (by omega)
  · obtain ⟨m, h1, rfl⟩ := hg i x hx
    obtain ⟨m2, h2, rfl⟩ := hg j y hy
    obtain ⟨a1, a2⟩ := List.getElem?_eq_some_iff.1 h1
    obtain ⟨b1, b2⟩ := List.getElem?_eq_some_iff.1 h2
    have l1 := h.lt m (List.mem_of_getElem? h1)
    have l2 := h.lt m2 (List.mem_of_getElem? h2)
    have := ho i j a1 b1 hij
    rw [a2, b2] at this
    have := this _ _ (List.getElem?_eq_getElem l1) (List.getElem?_eq_getElem l2)
    simp only [Int.ofNat_eq_natCast, Int.toNat_natCast]
    rw [lat_some (List.getElem?_eq_getElem l1), lat_some (List.getElem?_eq_getElem l2)]
    exact this
  · have := h.run
    rw [lat_fm h.lt] at this
    rw [List.map_map]
    simpa [Function.comp_def] using this
theorem good_c {k : Int} {os : List LOp} {s l : SV} {xs : List Int} {own : List Ent} {ro : Addr → Option Value} {post : Value → H → Prop} (hr : RdRows ⟨[], ro⟩ 6 s (os.flatMap lopV)) (hl : RdSl ⟨[], ro⟩ l (ints xs)) (hn : os.length ≤ 8) (ha : ∀ o ∈ os, 0 ≤ o.arg ∧ o.arg ≤ 1000)
    (h1 : GoodI k os xs → ∀ ro', (∀ a v, ro a = some v → ro' a = some v) → post (.bool true) ⟨own, ro'⟩) (h2 : ¬ GoodI k os xs → ∀ ro', (∀ a v, ro a = some v → ro' a = some v) → post (.bool false) ⟨own, ro'⟩) :
    SemCall Try.prog 8 (List.toArray [.int .i64 k, .slice s.a s.len s.cap, .slice l.a l.len l.cap]) ⟨own, ro⟩ post := by
  have hsl := hr.len lopV_len (by decide)
  have hll := hl.len
  rw [ints_length] at hll
  refine f8_call k s l _ post ?_
  refine VIf_ne (fun hc => ret (h2 (fun h => ?_) ro (fun _ _ h => h))) (fun hc => ?_)
  · have := h.len; omega
  have hlen : xs.length = os.length := by omega
  -- what is there first
  refine ⟨fun s0 h => ∃ ro', (∀ a v, ro a = some v → ro' a = some v) ∧ h = ⟨own, ro'⟩ ∧ RdSl ⟨[], ro'⟩ s0 (ints (lin0 k)) ∧ s0.len ≤ s0.cap, VIf_eq (fun hk0 => ?_) (fun hk0 => gi ⟨ro, fun _ _ h => h, rfl, ?_, by simp⟩), ?_⟩
  · intro r2 hr2
    refine appVC_of (s := ⟨none, 0, 0⟩) (s2 := ⟨some (Addr.mk r2 0 none), 1, 1⟩) grows_ints (ys := [.int .i64 0]) (by simp) ?_ ⟨rfl, trivial⟩ (by simp) (A := own) (C := []) (en := ⟨none, [], 0⟩) (xs := []) (ro := ro) ((Gh.drop (own' := own) (by simp)).trans (by simpa using Gh.phantom own [] ro 0)) (OwnsSl.nil 1) (by simp only; omega) (fun s' e' o1 l1 _ _ hf => ?_)
    · intro j v hv
      rw [add_mk']
      exact rdo ⟨some r2, [.int .i64 0], 1⟩ (by simp) rfl (by simpa using hv)
    · have hf0 : ∀ a v, ro a = some v → e'.id ≠ some a.block := fun a v hv hid => by
        rcases hf _ hid with h | h
        · cases h
        · exact h.2 a v hv rfl
      have e0 : ints (lin0 k) = [] ++ [.int .i64 0] := by rw [lin0, if_pos hk0]; rfl
      exact ⟨⟨own, Go.Eng.frozen e' ro⟩, by simpa using Gh.freeze own [] ro e' hf0, _, frozen_mono hf0, rfl, by rw [e0]; exact RdSl.frozen o1, o1.cap_le⟩
  · rw [lin0, if_neg hk0]
    exact ⟨rfl, fun _ => rfl, fun b hb => nomatch hb⟩
  rintro _ s0 _ ⟨ro0, m0, rfl, r0, cap0⟩
  let f : Int → LOp := fun x => lat os x.toNat
  refine ⟨fun h => ∃ ro', (∀ a v, ro a = some v → ro' a = some v) ∧ h = ⟨own, ro'⟩ ∧ GoodI k os xs,
    ⟨fun n sh i h => ∃ (q : Nat) (ro' : Addr → Option Value), i = (q : Int) ∧ q ≤ os.length ∧ n = os.length - q ∧ (∀ a v, ro a = some v → ro' a = some v) ∧ h = ⟨own, ro'⟩ ∧ RdSl ⟨[], ro'⟩ sh (ints (((xs.take q).map f).foldl (lgo k) (lin0 k))) ∧ sh.len ≤ sh.cap ∧
      Small k q (((xs.take q).map f).foldl (lgo k) (lin0 k)) ∧ lruns k (lin0 k) ((xs.take q).map f) ∧
      ∀ (i : Nat) x, i < q → xs[i]? = some x → (0 ≤ x ∧ x < os.length) ∧ ∀ (j : Nat) y, xs[j]? = some y → (j ≠ i → y ≠ x) ∧ (i < j → 0 ≤ y → y < os.length → ¬ (f y).too ≤ (f x).frm),
      ⟨_, gi ⟨0, ro0, rfl, Nat.zero_le _, rfl, m0, rfl, by simpa using r0, cap0, by simpa using Small.start k, by simp [lruns], fun i x hi => by omega⟩⟩, ?_⟩, ?_⟩
  rotate_left
  · rintro _ _ ⟨ro1, m1, rfl, hg⟩
    exact ret (h1 hg ro1 m1)
  clear r0 cap0 m0
  rintro n _ sh i _ ⟨q, ro1, rfl, hq, rfl, m1, rfl, r1, cap1, hsm, hrun, hall⟩
  have hrl : RdSl ⟨own, ro1⟩ l (ints xs) := hl.up (by simp) m1
  refine VIf_dec (fun hi => ?_) (fun hi => gi ?_)
  rotate_left
  · have hqe : q = os.length := by omega
    subst hqe
    rw [List.take_of_length_le (by omega)] at hrun
    have hin : ∀ (i : Nat) x, xs[i]? = some x → i < os.length := fun i x hx => by have := (List.getElem?_eq_some_iff.1 hx).1; omega
    exact ⟨ro1, m1, rfl, hlen, fun i x hx => (hall i x (hin i x hx) hx).1, fun i j x y hx hy hij => ((hall i x (hin i x hx) hx).2 j y hy).1 hij,
      fun i j x y hij hx hy => ((hall i x (hin i x hx) hx).2 j y hy).2 hij (hall j y (hin j y hy) hy).1.1 (hall j y (hin j y hy) hy).1.2, hrun⟩
  have hqx : q < xs.length := by omega
  obtain ⟨x, hx⟩ : ∃ x, xs[q]? = some x := ⟨_, List.getElem?_eq_getElem hqx⟩
  obtain ⟨b, hb⟩ := hrl.addr (by rw [ints_length]; omega)
  refine ⟨fun s2 h => ∃ ro', (∀ a v, ro a = some v → ro' a = some v) ∧ h = ⟨own, ro'⟩ ∧ RdSl ⟨[], ro'⟩ s2 (ints (((xs.take (q + 1)).map f).foldl (lgo k) (lin0 k))) ∧ s2.len ≤ s2.cap ∧ lruns k (lin0 k) ((xs.take (q + 1)).map f) ∧
      (0 ≤ x ∧ x < os.length) ∧ ∀ (j : Nat) y, xs[j]? = some y → (j ≠ q → y ≠ x) ∧ (q < j → 0 ≤ y → y < os.length → ¬ (f y).too ≤ (f x).frm),
    ⟨b, hb, by omega, hi, x, hrl.rdi hb (by simpa using hx), ⟨by omega, by omega⟩, in_i (fun hc => ⟨_, rfl, VIf_nb (fun _ => ret (h2 (fun hg => ?_) ro1 m1)) (nomatch ·)⟩) (fun c0 c1 => ⟨_, rfl, VIf_nb (nomatch ·) (fun _ => ?_)⟩)⟩, ?_⟩
  · have := hg.rg q x hx; omega
  rotate_left
  · rintro _ s2 _ ⟨ro2, m2, rfl, r2, cap2, hrun2, hx0, hx1⟩
    have hxo : ∃ o ∈ os, f x = o := ⟨_, List.getElem_mem (by omega : x.toNat < os.length), lat_some (List.getElem?_eq_getElem _)⟩
    obtain ⟨o, ho, hfo⟩ := hxo
    refine ⟨⟨by omega, by omega⟩, os.length - (q + 1), by omega, gi ⟨q + 1, ro2, by omega, by omega, rfl, m2, rfl, r2, cap2, ?_, hrun2, fun i y hiq hy => ?_⟩⟩
    · rw [List.take_add_one, hx]
      simp only [Option.toList_some, List.map_append, List.map_cons, List.map_nil, List.foldl_append, List.foldl_cons, List.foldl_nil]
      refine hsm.go ?_ ?_ <;> rw [hfo]
      · exact (ha o ho).1
      · exact (ha o ho).2
    · by_cases he : i = q
      · subst he
        rw [hx] at hy
        cases hy
        exact ⟨hx0, hx1⟩
      · exact hall i y (by omega) hy
  -- the others
  refine ⟨fun h => h = ⟨own, ro1⟩ ∧ ∀ (j : Nat) y, xs[j]? = some y → (j ≠ q → y ≠ x) ∧ (q < j → 0 ≤ y → y < os.length → ¬ (f y).too ≤ (f x).frm),
    ⟨fun n i h => ∃ j : Nat, i = (j : Int) ∧ j ≤ os.length ∧ n = os.length - j ∧ h = ⟨own, ro1⟩ ∧ ∀ (j' : Nat) y, j' < j → xs[j']? = some y → (j' ≠ q → y ≠ x) ∧ (q < j' → 0 ≤ y → y < os.length → ¬ (f y).too ≤ (f x).frm), ⟨_, gi ⟨0, rfl, Nat.zero_le _, rfl, rfl, fun j' y hj => by omega⟩⟩, ?_⟩, ?_⟩
  · rintro n _ i _ ⟨j, rfl, hj, rfl, rfl, hp⟩
    refine VIf_dec (fun hjl => ?_) (fun hjl => gi ⟨rfl, fun j' y hy => hp j' y (by have := (List.getElem?_eq_some_iff.1 hy).1; omega) hy⟩)
    have hjx : j < xs.length := by omega
    obtain ⟨y, hy⟩ : ∃ y, xs[j]? = some y := ⟨_, List.getElem?_eq_getElem hjx⟩
    have rdx : H.rd ⟨own, ro1⟩ (Addr.add (Addr.add b ((q : Int).toNat * 1)) 0) (.int .i64 x) := hrl.rdi hb (by simpa using hx)
    have rdy : H.rd ⟨own, ro1⟩ (Addr.add (Addr.add b ((j : Int).toNat * 1)) 0) (.int .i64 y) := hrl.rdi hb (by simpa using hy)
    have late : ∀ {R : Bool → H → Prop}, (j ≠ q → y ≠ x) → (∀ d : Bool, (d = true → q < j ∧ 0 ≤ y ∧ y < os.length ∧ (f y).too ≤ (f x).frm) → (d = false → q < j → 0 ≤ y → y < os.length → ¬ (f y).too ≤ (f x).frm) → R d ⟨own, ro1⟩) →
        VIf (decide ((j : Int) > (q : Int))) (∃ b37 : Addr, l.a = some b37 ∧ 0 ≤ (j : Int) ∧ (j : Int) < ((l.len : Nat) : Int) ∧ ∃ x38 : Int, H.rd ⟨own, ro1⟩ (Addr.add (Addr.add b37 ((j : Int).toNat * 1)) 0) (.int .i64 x38) ∧ In64 (((s.len : Nat) : Int) - 1) ∧
          SemCall Try.prog 9 (List.toArray [.int .i64 x38, .int .i64 0, .int .i64 (((s.len : Nat) : Int) - 1)]) ⟨own, ro1⟩ fun v39 h40 => ∃ x41 : Bool, v39 = .bool x41 ∧ VIf x41 (
            ∃ b42 : Addr, l.a = some b42 ∧ 0 ≤ (j : Int) ∧ (j : Int) < ((l.len : Nat) : Int) ∧ ∃ b43 : Addr, l.a = some b43 ∧ 0 ≤ (q : Int) ∧ (q : Int) < ((l.len : Nat) : Int) ∧ ∃ x44 : Int, H.rd h40 (Addr.add (Addr.add b42 ((j : Int).toNat * 1)) 0) (.int .i64 x44) ∧
            ∃ b45 : Addr, s.a = some b45 ∧ 0 ≤ x44 ∧ x44 < ((s.len : Nat) : Int) ∧ ∃ x46 : Int, H.rd h40 (Addr.add (Addr.add (Addr.add b45 (x44.toNat * 6)) 5) 0) (.int .i64 x46) ∧ ∃ x47 : Int, H.rd h40 (Addr.add (Addr.add b43 ((q : Int).toNat * 1)) 0) (.int .i64 x47) ∧
            ∃ b48 : Addr, s.a = some b48 ∧ 0 ≤ x47 ∧ x47 < ((s.len : Nat) : Int) ∧ ∃ x49 : Int, H.rd h40 (Addr.add (Addr.add (Addr.add b48 (x47.toNat * 6)) 4) 0) (.int .i64 x49) ∧ ∃ h50, Gh h40 h50 ∧ R (decide (x46 ≤ x49)) h50) (∃ h51, Gh h40 h51 ∧ R false h51))
          (∃ h52, Gh ⟨own, ro1⟩ h52 ∧ R false h52) := by
      intro R _ hR
      refine VIf_dec (fun hjq => ?_) (fun hjq => gi (hR false (fun h => by cases h) (fun _ h => by omega)))
      refine ⟨b, hb, by omega, hjl, y, rdy, ⟨by omega, by omega⟩, in_i (fun hc => ⟨_, rfl, VIf_b (nomatch ·) (fun _ => gi (hR false (fun h => by cases h) (fun _ _ a c => by omega)))⟩) (fun d0 d1 => ⟨_, rfl, VIf_b (fun _ => ?_) (nomatch ·)⟩)⟩
      obtain ⟨bs, oy, hbs, hoy, hrowy⟩ := hr.row lopV_len (by decide) (i := y) d0 (by omega)
      obtain ⟨bs2, ox, hbs2, hox, hrowx⟩ := hr.row lopV_len (by decide) (i := x) c0 (by omega)
      rw [hbs] at hbs2
      cases hbs2
      have ry := (RdRows.up (h := ⟨own, ro⟩) (h2 := ⟨own, ro1⟩) hr m1)
      refine ⟨b, hb, by omega, hjl, b, hb, by omega, hi, y, rdy, bs, hbs, d0, by omega, oy.too, ?_, x, rdx, bs, hbs, c0, by omega, ox.frm, ?_, gi (hR _ (fun h => ⟨by omega, d0, by omega, ?_⟩) (fun h _ _ _ => ?_))⟩
      · have := (hrowy 5 _ rfl).mono (h2 := ⟨own, ro1⟩) (by simp) m1
        simpa [Addr.add_zero'] using this
      · have := (hrowx 4 _ rfl).mono (h2 := ⟨own, ro1⟩) (by simp) m1
        simpa [Addr.add_zero'] using this
      · show (lat os y.toNat).too ≤ (lat os x.toNat).frm
        rw [lat_some hoy, lat_some hox]; exact of_decide_eq_true h
      · show ¬ (lat os y.toNat).too ≤ (lat os x.toNat).frm
        rw [lat_some hoy, lat_some hox]; exact of_decide_eq_false h
    let Rr : Bool → H → Prop := fun bad h => h = ⟨own, ro1⟩ ∧ (bad = true → ¬ GoodI k os xs) ∧ (bad = false → (j ≠ q → y ≠ x) ∧ (q < j → 0 ≤ y → y < os.length → ¬ (f y).too ≤ (f x).frm))
    refine ⟨Rr, ?_, ?_⟩
    rotate_left
    · rintro _ bad _ ⟨rfl, g1, g2⟩
      refine VIf_b (fun hbad => ret (h2 (g1 hbad) ro1 m1)) (fun hbad => ⟨⟨by omega, by omega⟩, os.length - (j + 1), by omega, gi ⟨j + 1, by omega, by omega, rfl, rfl, fun j' z hj' hz => ?_⟩⟩)
      by_cases he : j' = j
      · subst he
        rw [hy] at hz
        cases hz
        exact g2 hbad
      · exact hp j' z (by omega) hz
    have fin : (j ≠ q → y ≠ x) → ∀ d : Bool, (d = true → q < j ∧ 0 ≤ y ∧ y < os.length ∧ (f y).too ≤ (f x).frm) → (d = false → q < j → 0 ≤ y → y < os.length → ¬ (f y).too ≤ (f x).frm) →
        (⟨own, ro1⟩ : H) = ⟨own, ro1⟩ ∧ (d = true → ¬ GoodI k os xs) ∧ (d = false → (j ≠ q → y ≠ x) ∧ (q < j → 0 ≤ y → y < os.length → ¬ (f y).too ≤ (f x).frm)) := fun hd d h1 h2 =>
      ⟨rfl, fun hdt hg => by obtain ⟨a1, a2, a3, a4⟩ := h1 hdt; exact hg.ord q j x y a1 hx hy a4, fun hdf => ⟨hd, h2 hdf⟩⟩
    refine VIf_ne (fun hjq => ?_) (fun hjq => ?_)
    · refine ⟨b, hb, by omega, hjl, b, hb, by omega, hi, y, rdy, x, rdx, VIf_eq (fun he => gi ⟨rfl, fun _ hg => ?_, fun h => by cases h⟩) (fun he => ?_)⟩
      · exact hg.df q j x y hx hy (by omega) he
      · exact late (R := Rr) (fun _ => he) (fin (fun _ => he))
    · exact late (R := Rr) (fun h => absurd hjq (by omega)) (fin (fun h => absurd hjq (by omega)))
  · rintro _ _ ⟨rfl, hp⟩
    obtain ⟨bs, o, hbs, ho, hrow⟩ := hr.row lopV_len (by decide) (i := x) c0 (by omega)
    have hrow' : ∀ {own : List Ent} {ro2 : Addr → Option Value} (_ : ∀ a v, ro1 a = some v → ro2 a = some v) (t : Nat) (v : Value), (lopV o)[t]? = some v → H.rd ⟨own, ro2⟩ (Addr.add (Addr.add bs (x.toNat * 6)) t) v := fun hm t v hv => (hrow t v hv).mono (by simp) (fun a v h => hm a v (m1 a v h))
    have rdx : ∀ {own : List Ent} {ro2 : Addr → Option Value} (_ : ∀ a v, ro1 a = some v → ro2 a = some v), H.rd ⟨own, ro2⟩ (Addr.add (Addr.add b ((q : Int).toNat * 1)) 0) (.int .i64 x) := fun hm => (hl.up (by simp) (fun a v h => hm a v (m1 a v h))).rdi hb (by simpa using hx)
    have hfo : f x = o := lat_some ho
    have hom := List.mem_of_getElem? ho
    have hxs : x < ((s.len : Nat) : Int) := by omega
    have idm : ∀ a v, ro1 a = some v → ro1 a = some v := fun _ _ h => h
    refine ⟨b, hb, by omega, hi, x, rdx idm, bs, hbs, c0, hxs, _, hrow' idm 0 _ rfl, _, hrow' idm 1 _ rfl, _, hrow' idm 2 _ rfl, _, hrow' idm 3 _ rfl, _, hrow' idm 4 _ rfl, _, hrow' idm 5 _ rfl, ?_⟩
    have hstl := r1.len
    rw [ints_length] at hstl
    refine gets_c (o := o) r1 cap1 ?_ (fun hk0 => ?_) (fun hk0 => ?_) (fun s' ro2 m2 r2 cap2 => ?_)
    · by_cases hk0 : k = 0
      · obtain ⟨z, hz, _⟩ := hsm.z hk0
        rw [hz] at hstl; simp at hstl; omega
      · have := hsm.l hk0; omega
    · obtain ⟨z, hz, _⟩ := hsm.z hk0
      exact ⟨z, hz⟩
    · obtain ⟨z, hz, z0, z1⟩ := hsm.z hk0
      rw [hz]
      have := ha o hom
      simp only [gI]
      exact ⟨by simp; omega, by simp; omega⟩
    · refine ⟨s', _, rfl, b, hb, by omega, hi, x, rdx m2, bs, hbs, c0, hxs, o.got, ?_, VIf_ne (fun hne => ret (h2 (fun hg => ?_) ro2 (fun a v h => m2 a v (m1 a v h)))) (fun he => gi ⟨ro2, fun a v h => m2 a v (m1 a v h), rfl, ?_, cap2, ?_, ⟨c0, by omega⟩, hp⟩)⟩
      · simpa [Addr.add_zero'] using hrow' m2 3 _ rfl
      · have hr0 := hg.run
        have e0 : xs = xs.take q ++ x :: xs.drop (q + 1) := by
          rw [List.getElem?_eq_getElem hqx] at hx
          cases hx
          rw [List.getElem_cons_drop, List.take_append_drop]
        rw [e0, List.map_append, List.map_cons] at hr0
        have := lruns_left (σ := (xs.take q).map f ++ [f x]) (τ := (xs.drop (q + 1)).map f) (by simpa [f] using hr0)
        have := (lruns_app.1 this).2
        rw [hfo] at this
        exact hne this
      · rw [List.take_add_one, hx]
        simp only [Option.toList_some, List.map_append, List.map_cons, List.map_nil, List.foldl_append, List.foldl_cons, List.foldl_nil]
        rw [hfo]; exact r2
      · rw [List.take_add_one, hx]
        simp only [Option.toList_some, List.map_append, List.map_cons, List.map_nil]
        rw [lruns_app, hfo]
        exact ⟨hrun, he⟩
end Go.Proofs.Ytnepjdobknjecaa
