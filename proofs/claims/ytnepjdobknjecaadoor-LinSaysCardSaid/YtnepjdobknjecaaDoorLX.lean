import Derived.Test.YtnepjdobknjecaaDoorL7
import Derived.Test.YtnepjdobknjecaaDoorRf
import Derived.Test.YtnepjdobknjecaaDoorT2
import Derived.Test.YtnepjdobknjecaaDoorEngL
import Derived.Test.YtnepjdobknjecaaDoorEngJ
namespace Go.Proofs.YtnepjdobknjecaaDoor
open Go.Eng
set_option maxRecDepth 20000
theorem grows_ops : Grows Tryd.prog 47 54 6 := ⟨rfl, rfl, by decide, by decide, ⟨_, rfl, rfl, ⟨rfl, rfl, rfl, rfl, rfl, rfl, trivial⟩⟩⟩
def opOf (R : Nat → Int) : LOp := ⟨R 0, R 1, R 2, R 3, R 4, R 5⟩
theorem ops_rows {h : H} {s : SV} {R : List (Nat → Int)} (hr : RdRows h 6 s (R.flatMap (intRow 6))) : RdRows h 6 s ((R.map opOf).flatMap lopV) := by
  rw [List.flatMap_map]
  exact hr
/-! ### the document's row of a history -/
theorem ref4_in_l {n lo hi : Int} {h : H} {post : Value → H → Prop} (hk : post (.bool (decide (lo ≤ n ∧ n ≤ hi))) h) : SemCall Tryd.prog 30 (List.toArray [.int .i64 n, .int .i64 lo, .int .i64 hi]) h post := by
  refine f30_call n lo hi h post ?_
  refine ⟨fun b h' => h' = h ∧ b = decide (lo ≤ n ∧ n ≤ hi), VIf_dec (fun hx => gi ⟨rfl, ?_⟩) (fun hx => gi ⟨rfl, ?_⟩), ?_⟩
  · have : lo ≤ n := hx; simp [this]
  · have : ¬ lo ≤ n := hx; simp [this]
  · rintro _ b h' ⟨rfl, rfl⟩; exact ret hk
theorem rdz {h : H} {a : Addr} {v : Value} (r : H.rd h a v) : H.rd h (Addr.add a 0) v := by rw [add_zero']; exact r
open Classical in
theorem ref4_hist_c {k : Int} {os : List LOp} {s : SV} {own : List Ent} {ro : Addr → Option Value} {post : Value → H → Prop} (hr : RdRows ⟨[], ro⟩ 6 s (os.flatMap lopV))
    (hk : post (.int .i64 (lcheck k os)) ⟨own, ro⟩) : SemCall Tryd.prog 23 (List.toArray [.int .i64 k, .slice s.a s.len s.cap]) ⟨own, ro⟩ post := by
  have hsl := hr.len lopV_len (by decide)
  refine f23_call _ _ _ post (ref4_in_l ⟨_, rfl, VIf_not (fun hc => ret ?_) (fun hc => ?_)⟩)
  · rw [lcheck, if_pos hc] at hk; exact hk
  rw [lcheck, if_neg (not_not_intro hc)] at hk
  refine VIf_dec (fun h8 => ret ?_) (fun h8 => ?_)
  · rw [if_pos (by omega)] at hk; exact hk
  rw [if_neg (by omega)] at hk
  refine ⟨fun h => h = ⟨own, ro⟩ ∧ lchk [] os = 0, ⟨fun n i h => ∃ j : Nat, i = (j : Int) ∧ j ≤ os.length ∧ n = os.length - j ∧ h = ⟨own, ro⟩ ∧ lchk (os.take j) (os.drop j) = lchk [] os, ⟨_, gi ⟨0, rfl, Nat.zero_le _, rfl, rfl, rfl⟩⟩, ?_⟩, ?_⟩
  rotate_left
  · rintro _ _ ⟨rfl, h0⟩
    rw [h0] at hk
    exact ret hk
  rintro n _ i _ ⟨j, rfl, hj, rfl, rfl, hch⟩
  unfold f23_L3
  simp only [Int.toNat_natCast]
  refine VIf_dec (fun hi => ?_) (fun hi => gi ⟨rfl, ?_⟩)
  rotate_left
  · rw [← hch, show j = os.length by omega, List.drop_length]; rfl
  obtain ⟨b, o, hb, hoj, hrow⟩ := hr.row lopV_len (by decide) (i := (j : Int)) (by omega) hi
  rw [Int.toNat_natCast] at hoj hrow
  have hrow' : ∀ {own : List Ent} (q : Nat) (v : Value), (lopV o)[q]? = some v → H.rd ⟨own, ro⟩ (Addr.add (Addr.add b (j * 6)) q) v := fun q v hv => (hrow q v hv).own (by simp) rfl
  rw [drop_of hoj] at hch
  refine ⟨fun h => h = ⟨own, ro⟩ ∧ lchk (os.take (j + 1)) (os.drop (j + 1)) = lchk [] os, ?_, ?_⟩
  rotate_left
  · rintro _ _ ⟨rfl, h2⟩
    exact ⟨⟨by omega, by omega⟩, _, by omega, gi ⟨j + 1, by omega, by omega, rfl, rfl, h2⟩⟩
  refine ⟨b, hb, by omega, hi, _, hrow' 0 _ rfl, _, hrow' 1 _ rfl, _, hrow' 2 _ rfl, _, hrow' 3 _ rfl, _, hrow' 4 _ rfl, _, hrow' 5 _ rfl, ?_⟩
  intro r21 _
  refine ⟨rfl, rfl, wro own _ [] (allOne_lop o) rfl rfl (by simp) ?_⟩
  obtain ⟨E, hE⟩ : ∃ E : Ent, E = ⟨some r21, lopV o, 6⟩ := ⟨_, rfl⟩
  have hEE : (⟨some r21, spl [Value.int .i64 (0 : Int), .int .i64 0, .int .i64 0, .int .i64 0, .int .i64 0, .int .i64 0] 0 [Value.int .i64 o.hand, .int .i64 o.kind, .int .i64 o.arg, .int .i64 o.got, .int .i64 o.frm, .int .i64 o.too], List.length [Value.int .i64 (0 : Int), .int .i64 0, .int .i64 0, .int .i64 0, .int .i64 0, .int .i64 0]⟩ : Ent) = E := by rw [hE]; simp [spl, lopV]
  rw [hEE]
  have hEr : ∀ {own : List Ent} (q : Nat) (v : Value), E ∈ own → (lopV o)[q]? = some v → H.rd ⟨own, ro⟩ (Addr.add (Addr.add (Addr.mk r21 0 none) q) 0) v := fun q v hm hv => by
    rw [add_zero', add_mk', Nat.zero_add]
    exact rdo E hm (by rw [hE]) (by rw [hE]; exact hv)
  refine join_b (h := ⟨own ++ [E], ro⟩) (!decide (lrange o)) ?_ ?_
  · refine ⟨_, hEr 0 _ (by simp) rfl, ref4_in_l ⟨_, rfl, VIf_not (fun h => gi ⟨rfl, by simp [lrange, h]⟩) (fun h1 => ?_)⟩⟩
    refine ⟨_, hEr 1 _ (by simp) rfl, ref4_in_l ⟨_, rfl, VIf_not (fun h => gi ⟨rfl, by simp [lrange, h]⟩) (fun h2 => ?_)⟩⟩
    refine ⟨_, hEr 2 _ (by simp) rfl, ref4_in_l ⟨_, rfl, VIf_not (fun h => gi ⟨rfl, by simp [lrange, h]⟩) (fun h3 => ?_)⟩⟩
    refine ⟨_, hEr 3 _ (by simp) rfl, ref4_in_l ⟨_, rfl, VIf_not (fun h => gi ⟨rfl, by simp [lrange, h]⟩) (fun h4 => ?_)⟩⟩
    refine ⟨_, hEr 4 _ (by simp) rfl, ref4_in_l ⟨_, rfl, VIf_not (fun h => gi ⟨rfl, by simp [lrange, h]⟩) (fun h5 => ?_)⟩⟩
    refine ⟨_, hEr 5 _ (by simp) rfl, ref4_in_l ⟨_, rfl, gi ⟨rfl, ?_⟩⟩⟩
    simp [lrange, h1, h2, h3, h4, h5]
  unfold f23_J2
  rw [lchk] at hch
  refine VIf_nb (fun hrg => ?_) (fun hrg => ?_)
  · have hrg : ¬ lrange o := by simpa using hrg
    rw [if_pos hrg] at hch
    rw [← hch] at hk
    exact ⟨⟨own, ro⟩, Gh.drop (by simp), hk⟩
  have hrg : lrange o := by simpa using hrg
  rw [if_neg (not_not_intro hrg)] at hch
  refine ⟨_, hEr 4 _ (by simp) rfl, _, hEr 5 _ (by simp) rfl, VIf_dec (fun hft => ?_) (fun hft => ?_)⟩
  · rw [if_pos hft] at hch
    rw [← hch] at hk
    exact ⟨⟨own, ro⟩, Gh.drop (by simp), hk⟩
  rw [if_neg hft] at hch
  refine ⟨fun h => h = ⟨own ++ [E], ro⟩ ∧ ¬ ∃ p ∈ os.take j, lclash p o, ⟨fun n i h => ∃ q : Nat, i = (q : Int) ∧ q ≤ j ∧ n = j - q ∧ h = ⟨own ++ [E], ro⟩ ∧ ¬ ∃ p ∈ os.take q, lclash p o, ⟨_, gi ⟨0, rfl, Nat.zero_le _, rfl, rfl, by simp⟩⟩, ?_⟩, ?_⟩
  rotate_left
  · rintro _ _ ⟨rfl, hn⟩
    rw [if_neg hn] at hch
    exact ⟨⟨own, ro⟩, Gh.drop (by simp), rfl, by rw [take_succ_of hoj]; exact hch⟩
  rintro n _ i _ ⟨q, rfl, hq, rfl, rfl, hn⟩
  unfold f23_L1
  simp only [Int.toNat_natCast]
  refine VIf_dec (fun hi2 => ?_) (fun hi2 => gi ⟨rfl, by rw [show j = q by omega]; exact hn⟩)
  obtain ⟨b2, o2, hb2, ho2, hrow2⟩ := hr.row lopV_len (by decide) (i := (q : Int)) (by omega) (by omega)
  rw [Int.toNat_natCast] at ho2 hrow2
  have hrow2' : ∀ {own : List Ent} (q2 : Nat) (v : Value), (lopV o2)[q2]? = some v → H.rd ⟨own, ro⟩ (Addr.add (Addr.add (Addr.add b2 (q * 6)) q2) 0) v := fun q2 v hv => rdz ((hrow2 q2 v hv).own (by simp) rfl)
  refine join_b (h := ⟨own ++ [E], ro⟩) (decide (lclash o2 o)) ?_ ?_
  · refine ⟨b2, hb2, by omega, by omega, _, hrow2' 0 _ rfl, _, hEr 0 _ (by simp) rfl, VIf_eq (fun h1 => ?_) (fun h1 => gi ⟨rfl, by simp [lclash, h1]⟩)⟩
    refine ⟨b2, hb2, by omega, by omega, _, hrow2' 4 _ rfl, _, hEr 5 _ (by simp) rfl, VIf_dec (fun h2 => ?_) (fun h2 => gi ⟨rfl, by simp [lclash, h2]⟩)⟩
    refine ⟨_, hEr 4 _ (by simp) rfl, b2, hb2, by omega, by omega, _, hrow2' 5 _ rfl, gi ⟨rfl, by simp [lclash, h1, h2]⟩⟩
  refine VIf_dec (fun hcl => ?_) (fun hcl => ?_)
  · have hmem : o2 ∈ os.take j := List.mem_of_getElem? (i := q) (by rw [List.getElem?_take, if_pos (by omega)]; exact ho2)
    rw [if_pos ⟨o2, hmem, hcl⟩] at hch
    rw [← hch] at hk
    exact ⟨⟨own, ro⟩, Gh.drop (by simp), hk⟩
  · refine ⟨⟨by omega, by omega⟩, _, by omega, gi ⟨q + 1, by omega, by omega, rfl, rfl, ?_⟩⟩
    rw [take_succ_of ho2]
    rintro ⟨p, hp, hc⟩
    simp only [List.mem_append, List.mem_singleton] at hp
    rcases hp with hp | rfl
    · exact hn ⟨p, hp, hc⟩
    · exact hcl hc
theorem findSome_at {β : Type} {f : Nat → Option β} {n t : Nat} {b : β} (ht : t < n) (h1 : ∀ u, u < t → f u = none) (h2 : f t = some b) : (List.range n).findSome? f = some b := by
  obtain ⟨c, hc⟩ := findSome_range_some (f := f) ht (by rw [h2]; rfl)
  obtain ⟨i, hi, h3, h4⟩ := findSome_range hc
  have : i = t := by
    rcases Nat.lt_trichotomy i t with h | h | h
    · rw [h1 i h] at h3; cases h3
    · exact h
    · rw [h4 t h] at h2; cases h2
  subst this
  rw [hc, ← h3, h2]
def LfRes (k : Int) (os : List LOp) (m : Nat) (told : List Nat) (st : List Int) (s : SV) (ro : Addr → Option Value) : Prop :=
  (∀ l, lfind k os m told st = some l → RdSl ⟨[], ro⟩ s (nints l)) ∧ (lfind k os m told st = none → s.len < os.length)
open Classical in
/-- what comes of one that is tried -/
noncomputable def ltry (k : Int) (os : List LOp) (m : Nat) (told : List Nat) (st : List Int) (i : Nat) : Option (List Nat) := match os[i]? with
  | none => none
  | some o => if lcan os told i o ∧ lgot k st o = o.got then lfind k os m (told ++ [i]) (lgo k st o) else none
theorem lfind_succ {k : Int} {os : List LOp} {m : Nat} {told : List Nat} {st : List Int} : lfind k os (m + 1) told st = (List.range os.length).findSome? (ltry k os m told st) := rfl
set_option maxHeartbeats 1600000 in
open Classical in
theorem ref4_rest_c {k : Int} {os : List LOp} {sh : SV} (hok : LOk k os) : ∀ (m : Nat) {told : List Nat} {st : List Int} {sl ss : SV} {own : List Ent} {ro : Addr → Option Value} {post : Value → H → Prop}, told.length + m = os.length → told.Nodup → (∀ t ∈ told, t < os.length) →
    RdRows ⟨[], ro⟩ 6 sh (os.flatMap lopV) → RdSl ⟨[], ro⟩ sl (nints told) → RdSl ⟨[], ro⟩ ss (ints st) → ss.len ≤ ss.cap → (k = 0 → ∃ z, st = [z] ∧ 0 ≤ z ∧ z ≤ 1000 * told.length) → (k ≠ 0 → st.length ≤ told.length) →
    (∀ s' ro', (∀ a v, ro a = some v → ro' a = some v) → LfRes k os m told st s' ro' → post (.slice s'.a s'.len s'.cap) ⟨own, ro'⟩) →
    SemCall Tryd.prog 39 (List.toArray [.int .i64 k, .slice sh.a sh.len sh.cap, .slice sl.a sl.len sl.cap, .slice ss.a ss.len ss.cap]) ⟨own, ro⟩ post
  | m, told, st, sl, ss, own, ro, post, hm, hnd, hlt, hsh, hsl, hss, hcap, hz, hnz, hk => by
    refine f39_call _ _ _ _ _ post ?_
    have n8 := hok.n
    have shl := hsh.len lopV_len (by decide)
    have sll := hsl.len
    rw [nints_length] at sll
    have ssl := hss.len
    rw [ints_length] at ssl
    have hkb : st.length ≤ 9 := by
      by_cases h0 : k = 0
      · obtain ⟨z, rfl, _⟩ := hz h0; simp
      · have := hnz h0; omega
    refine ⟨fun h => ∃ ro', (∀ a v, ro a = some v → ro' a = some v) ∧ h = ⟨own, ro'⟩ ∧ (∀ m', m = m' + 1 → lfind k os m told st = none),
      ⟨fun n x h => ∃ (t : Nat) (ro' : Addr → Option Value), x = (t : Int) ∧ t ≤ os.length ∧ n = os.length - t ∧ (∀ a v, ro a = some v → ro' a = some v) ∧ h = ⟨own, ro'⟩ ∧ ∀ m', m = m' + 1 → ∀ u, u < t → ltry k os m' told st u = none,
        ⟨_, gi ⟨0, ro, rfl, Nat.zero_le _, rfl, fun _ _ h => h, rfl, fun _ _ j hj => by omega⟩⟩, ?_⟩, ?_⟩
    rotate_left
    · rintro _ _ ⟨ro', mo, rfl, hno⟩
      refine ret (hk sl ro' mo ⟨fun r hr => ?_, fun hr => ?_⟩)
      · cases m with
        | zero =>
          simp only [lfind, Option.some.injEq] at hr
          subst hr
          exact hsl.mono (by simp) mo
        | succ n => rw [hno n rfl] at hr; cases hr
      · cases m with
        | zero => simp [lfind] at hr
        | succ n => omega
    rintro n _ x _ ⟨t, ro1, rfl, ht, rfl, m1, rfl, hall⟩
    unfold f39_L6
    refine VIf_dec (fun hi => ?_) (fun hi => gi ⟨ro1, m1, rfl, fun m' hm' => ?_⟩)
    rotate_left
    · subst hm'
      rw [lfind_succ, List.findSome?_eq_none_iff]
      exact fun u hu => hall m' rfl u (by have := List.mem_range.1 hu; omega)
    have htl : t < os.length := by omega
    obtain ⟨b, o, hb, hot, hrow⟩ := hsh.row lopV_len (by decide) (i := (t : Int)) (by omega) hi
    rw [Int.toNat_natCast] at hot hrow
    have hrow' : ∀ {X : List Ent} {ro2 : Addr → Option Value} (q : Nat) (v : Value), (∀ a v, ro a = some v → ro2 a = some v) → (lopV o)[q]? = some v → H.rd ⟨X, ro2⟩ (Addr.add (Addr.add b (t * 6)) q) v := fun q v mo hv => ⟨(hrow q v hv).1, (hrow q v hv).2.elim (fun ⟨e, he, _⟩ => by simp at he) (fun h => .inr (mo _ _ h))⟩
    have next : ∀ {ro2 : Addr → Option Value}, (∀ a v, ro a = some v → ro2 a = some v) → (∀ m', m = m' + 1 → ltry k os m' told st t = none) →
        In64 ((t : Int) + 1) ∧ ∃ m6, m6 < os.length - t ∧ ∃ h90, Gh ⟨own, ro2⟩ h90 ∧ ∃ (t2 : Nat) (ro' : Addr → Option Value), (t : Int) + 1 = (t2 : Int) ∧ t2 ≤ os.length ∧ m6 = os.length - t2 ∧ (∀ a v, ro a = some v → ro' a = some v) ∧ h90 = ⟨own, ro'⟩ ∧ ∀ m', m = m' + 1 → ∀ u, u < t2 → ltry k os m' told st u = none := by
      intro ro2 m2 hno
      refine ⟨⟨by omega, by omega⟩, os.length - (t + 1), by omega, gi ⟨t + 1, ro2, by omega, by omega, rfl, m2, rfl, fun m' hm' u hu => ?_⟩⟩
      by_cases he : u = t
      · subst he; exact hno m' hm'
      · exact hall m' hm' u (by omega)
    refine ⟨fun h => ∃ ro2, (∀ a v, ro a = some v → ro2 a = some v) ∧ h = ⟨own, ro2⟩ ∧ (∀ m', m = m' + 1 → ltry k os m' told st t = none), ?_, ?_⟩
    rotate_left
    · rintro _ _ ⟨ro2, m2, rfl, hno⟩
      exact next m2 hno
    clear next
    have hsl1 : ∀ {X}, RdSl ⟨X, ro1⟩ sl (nints told) := fun {X} => hsl.mono (by simp) m1
    -- is it out already
    refine ⟨fun x h => h = ⟨own, ro1⟩ ∧ x = decide (t ∉ told), ⟨fun m x y h => ∃ j : Nat, y = (j : Int) ∧ j ≤ told.length ∧ m = told.length - j ∧ h = ⟨own, ro1⟩ ∧ x = decide (t ∉ told.take j), ⟨_, gi ⟨0, rfl, Nat.zero_le _, rfl, rfl, by simp⟩⟩, ?_⟩, ?_⟩
    · rintro m _ x y _ ⟨j, rfl, hj, rfl, rfl, rfl⟩
      unfold f39_L1
      refine VIf_dec (fun hi => ?_) (fun hi => gi ⟨rfl, by rw [List.take_of_length_le (by omega)]⟩)
      have hjt : j < told.length := by omega
      have htk : told.take (j + 1) = told.take j ++ [told[j]] := by rw [List.take_add_one, List.getElem?_eq_getElem hjt]; rfl
      refine join_b (h := ⟨own, ro1⟩) (decide (t ∉ told.take (j + 1))) (VIf_dec (fun h3 => ?_) (fun h3 => gi ⟨rfl, (decide_eq_false (fun h => h3 (fun h4 => h (by rw [htk]; exact List.mem_append_left _ h4)))).symm⟩)) ⟨⟨by omega, by omega⟩, told.length - (j + 1), by omega, gi ⟨j + 1, by omega, by omega, rfl, rfl, rfl⟩⟩
      refine RdSl.idx (xs := told.map Int.ofNat) hsl1 (by omega) (by omega) fun x hx => gi ⟨rfl, ?_⟩
      rw [Int.toNat_natCast, List.getElem?_map, List.getElem?_eq_getElem hjt] at hx
      have hx : x = ((told[j] : Nat) : Int) := (Option.some.inj hx).symm
      rw [hx, show (((told[j] : Nat) : Int) != (t : Int)) = decide (told[j] ≠ t) from by
        by_cases h : told[j] = t
        · simp [h]
        · have h2 : ¬ ((told[j] : Nat) : Int) = (t : Int) := by omega
          simp [h, h2]]
      exact decide_eq_decide.2 (by rw [htk]; simp only [List.mem_append, List.mem_singleton, not_or]; exact ⟨fun h => ⟨h3, fun e => h e.symm⟩, fun h e => h.2 e.symm⟩)
    rintro _ x _ ⟨rfl, rfl⟩
    -- may it come next
    refine ⟨fun x h => h = ⟨own, ro1⟩ ∧ x = decide (lcan os told t o), ⟨fun m x y h => ∃ j : Nat, y = (j : Int) ∧ j ≤ os.length ∧ m = os.length - j ∧ h = ⟨own, ro1⟩ ∧ x = decide (t ∉ told ∧ ∀ q, q < j → ∀ p, os[q]? = some p → p.too ≤ o.frm → q ∈ told), ⟨_, gi ⟨0, rfl, Nat.zero_le _, rfl, rfl, decide_eq_decide.2 ⟨fun h => ⟨h, fun q hq => by omega⟩, fun h => h.1⟩⟩⟩, ?_⟩, ?_⟩
    · rintro m _ x y _ ⟨j, rfl, hj, rfl, rfl, rfl⟩
      unfold f39_L4
      refine join_b (h := ⟨own, ro1⟩) (decide (j < os.length ∧ (t ∉ told ∧ ∀ q, q < j → ∀ p, os[q]? = some p → p.too ≤ o.frm → q ∈ told))) (VIf_dec (fun h1 => gi ⟨rfl, decide_eq_decide.2 ⟨fun h => ⟨by omega, h⟩, fun h => h.2⟩⟩) (fun h1 => gi ⟨rfl, (decide_eq_false (fun h => h1 (by omega))).symm⟩)) ?_
      unfold f39_J3
      refine VIf_dec (fun hc => ?_) (fun hc => gi ⟨rfl, ?_⟩)
      rotate_left
      · refine decide_eq_decide.2 ⟨fun h => ⟨h.1, fun q p hp => ?_⟩, fun h => ⟨h.1, fun q _ p hp hle => h.2 q p hp hle⟩⟩
        have hq := (List.getElem?_eq_some_iff.1 hp).1
        by_cases hqj : q < j
        · exact h.2 q hqj p hp
        · exact absurd ⟨by omega, h⟩ hc
      obtain ⟨hjl, hP⟩ := hc
      obtain ⟨b2, p, hb2, hpj, hrow2⟩ := hsh.row lopV_len (by decide) (i := (j : Int)) (by omega) (by omega)
      rw [Int.toNat_natCast] at hpj hrow2
      have hP1 : (∀ q, q < j + 1 → ∀ p, os[q]? = some p → p.too ≤ o.frm → q ∈ told) ↔ (p.too ≤ o.frm → j ∈ told) := by
        constructor
        · exact fun h => h j (by omega) p hpj
        · intro h q hq p' hp' hle
          by_cases hqj : q = j
          · subst hqj; rw [hpj] at hp'; cases hp'; exact h hle
          · exact hP.2 q (by omega) p' hp' hle
      refine join_b (h := ⟨own, ro1⟩) (decide (t ∉ told ∧ ∀ q, q < j + 1 → ∀ p, os[q]? = some p → p.too ≤ o.frm → q ∈ told)) ?_ ⟨⟨by omega, by omega⟩, os.length - (j + 1), by omega, gi ⟨j + 1, by omega, by omega, rfl, rfl, rfl⟩⟩
      have r5 : H.rd ⟨own, ro1⟩ (Addr.add (Addr.add b2 (j * 6)) 5) (.int .i64 p.too) := ⟨(hrow2 5 _ rfl).1, (hrow2 5 _ rfl).2.elim (fun ⟨e, he, _⟩ => by simp at he) (fun h => .inr (m1 _ _ h))⟩
      refine ⟨b2, hb2, by omega, by omega, p.too, rdz (by rw [Int.toNat_natCast]; exact r5), b, hb, by omega, by omega, o.frm, rdz (by rw [Int.toNat_natCast]; exact hrow' 4 _ m1 rfl), VIf_dec (fun hle => ?_) (fun hle => gi ⟨rfl, ?_⟩)⟩
      rotate_left
      · exact decide_eq_decide.2 ⟨fun h => ⟨hP.1, hP1.2 fun h => absurd h hle⟩, fun _ => hP⟩
      refine ⟨fun x h => h = ⟨own, ro1⟩ ∧ x = decide (j ∈ told), ⟨fun m x y h => ∃ q : Nat, y = (q : Int) ∧ q ≤ told.length ∧ m = told.length - q ∧ h = ⟨own, ro1⟩ ∧ x = decide (j ∈ told.take q), ⟨_, gi ⟨0, rfl, Nat.zero_le _, rfl, rfl, by simp⟩⟩, ?_⟩, ?_⟩
      · rintro m _ x y _ ⟨q, rfl, hq, rfl, rfl, rfl⟩
        unfold f39_L2
        refine VIf_dec (fun hi => ?_) (fun hi => gi ⟨rfl, by rw [List.take_of_length_le (by omega)]⟩)
        have hjt : q < told.length := by omega
        have htk : told.take (q + 1) = told.take q ++ [told[q]] := by rw [List.take_add_one, List.getElem?_eq_getElem hjt]; rfl
        refine join_b (h := ⟨own, ro1⟩) (decide (j ∈ told.take (q + 1))) (VIf_dec (fun h3 => gi ⟨rfl, (decide_eq_true (by rw [htk]; exact List.mem_append_left _ h3)).symm⟩) (fun h3 => ?_)) ⟨⟨by omega, by omega⟩, told.length - (q + 1), by omega, gi ⟨q + 1, by omega, by omega, rfl, rfl, rfl⟩⟩
        refine RdSl.idx (xs := told.map Int.ofNat) hsl1 (by omega) (by omega) fun x hx => gi ⟨rfl, ?_⟩
        rw [Int.toNat_natCast, List.getElem?_map, List.getElem?_eq_getElem hjt] at hx
        have hx : x = ((told[q] : Nat) : Int) := (Option.some.inj hx).symm
        rw [hx, show (((told[q] : Nat) : Int) == (j : Int)) = decide (told[q] = j) from by
          by_cases h : told[q] = j
          · simp [h]
          · have h2 : ¬ ((told[q] : Nat) : Int) = (j : Int) := by omega
            simp [h, h2]]
        exact decide_eq_decide.2 (by rw [htk]; simp only [List.mem_append, List.mem_singleton, h3, false_or]; exact ⟨fun h => h.symm, fun h => h.symm⟩)
      rintro _ x _ ⟨rfl, rfl⟩
      exact gi ⟨rfl, decide_eq_decide.2 ⟨fun h => ⟨hP.1, hP1.2 fun _ => h⟩, fun h => hP1.1 h.2 hle⟩⟩
    rintro _ x _ ⟨rfl, rfl⟩
    unfold f39_J5
    refine VIf_not (fun hcan => gi ⟨ro1, m1, rfl, fun m' _ => ?_⟩) (fun hcan => ?_)
    · unfold ltry; rw [hot]; exact if_neg (fun h => hcan h.1)
    obtain ⟨m', rfl⟩ : ∃ m', m = m' + 1 := by
      cases m with
      | zero => exact absurd (nodup_lt_mem hnd (by omega) hlt t htl) hcan.1
      | succ m' => exact ⟨m', rfl⟩
    have hro := hok.r o (List.mem_of_getElem? hot)
    have ha := hro.2.2.1
    refine ⟨b, hb, by omega, by omega, _, hrow' 0 _ m1 rfl, _, hrow' 1 _ m1 rfl, _, hrow' 2 _ m1 rfl, _, hrow' 3 _ m1 rfl, _, hrow' 4 _ m1 rfl, _, hrow' 5 _ m1 rfl, ?_⟩
    refine gets_c (o := o) (hss.mono (by simp) m1) hcap (by omega) (fun h0 => by obtain ⟨z, hz1, _⟩ := hz h0; exact ⟨z, hz1⟩) (fun h0 => by
      obtain ⟨z, rfl, z0, z1⟩ := hz h0
      show In64 (z + o.arg)
      exact ⟨by omega, by omega⟩) (fun s2 ro2 m2 r2 cap2 => ⟨s2, _, rfl, ?_⟩)
    have mm : ∀ a v, ro a = some v → ro2 a = some v := fun a v h => m2 a v (m1 a v h)
    refine ⟨b, hb, by omega, by omega, o.got, rdz (by rw [Int.toNat_natCast]; exact hrow' 3 _ mm rfl), VIf_ne (fun hne => gi ⟨ro2, mm, rfl, fun m'' _ => ?_⟩) (fun heq => ?_)⟩
    · unfold ltry; rw [hot]; exact if_neg (fun h => hne h.2)
    have hsl2 : ∀ {X}, RdSl ⟨X, ro2⟩ sl (ints (told.map Int.ofNat)) := fun {X} => hsl.mono (by simp) mm
    refine app_new hsl2 (by omega) (fun s50 e50 o50 l50 _ => ?_)
    have l50' := o50.sl_len
    rw [ints_length, List.length_map] at l50'
    refine app_row grows_ints (vs := [.int .i64 (t : Int)]) rfl ⟨rfl, trivial⟩ own e50 [] (by simp) o50 (by omega) (fun s59 e59 o59 _ => ?_)
    have hnd2 : (told ++ [t]).Nodup := List.nodup_append.2 ⟨hnd, by simp, by simp; exact fun a ha e => hcan.1 (e ▸ ha)⟩
    have hlt2 : ∀ u ∈ told ++ [t], u < os.length := fun u hu => by
      rcases List.mem_append.1 hu with hu | hu
      · exact hlt u hu
      · simp only [List.mem_singleton] at hu; omega
    refine SemCall.frz own e59 [] rfl o59 (fun ro3 m3 r3 => ?_)
    have r3' : RdSl ⟨[], ro3⟩ s59 (nints (told ++ [t])) := by
      have : ints (told.map Int.ofNat) ++ [.int .i64 (t : Int)] = nints (told ++ [t]) := by simp [nints, ints, intV]
      rw [this] at r3
      exact r3.sl
    have mm3 : ∀ a v, ro a = some v → ro3 a = some v := fun a v h => m3 a v (mm a v h)
    rw [List.append_nil]
    refine ref4_rest_c hok m' (told := told ++ [t]) (st := lgo k st o) (by simp; omega) hnd2 hlt2 (hsh.mono (by simp) mm3) r3' (r2.mono (by simp) m3) cap2 (fun h0 => ?_) (fun h0 => ?_) (fun s' ro4 m4 hres => ⟨s', rfl, ?_⟩)
    · obtain ⟨z, rfl, z0, z1⟩ := hz h0
      unfold lgo lget
      rw [if_pos h0]
      dsimp only
      split
      · refine ⟨z + o.arg, rfl, by omega, ?_⟩
        rw [List.length_append, List.length_singleton]
        push_cast
        omega
      · refine ⟨z, rfl, z0, ?_⟩
        rw [List.length_append, List.length_singleton]
        push_cast
        omega
    · have := hnz h0
      unfold lgo lget
      rw [if_neg h0]
      split
      · simp; omega
      split
      · simp; omega
      split
      · simp; omega
      · simp; omega
    have mm4 : ∀ a v, ro a = some v → ro4 a = some v := fun a v h => m4 a v (mm3 a v h)
    have etry : ltry k os m' told st t = lfind k os m' (told ++ [t]) (lgo k st o) := by
      unfold ltry; rw [hot]; exact if_pos ⟨hcan, heq⟩
    refine VIf_eq (fun he => ?_) (fun he => gi ⟨ro4, mm4, rfl, fun m'' hm'' => ?_⟩)
    · cases hx : lfind k os m' (told ++ [t]) (lgo k st o) with
      | none => have := hres.2 hx; omega
      | some l =>
        have htot : lfind k os (m' + 1) told st = some l := by
          rw [lfind_succ]
          exact findSome_at htl (hall m' rfl) (by rw [etry, hx])
        refine ret (hk s' ro4 mm4 ⟨fun l' hl' => ?_, fun hl' => ?_⟩)
        · rw [htot] at hl'; cases hl'; exact hres.1 l hx
        · rw [htot] at hl'; cases hl'
    · obtain rfl : m'' = m' := by omega
      rw [etry]
      cases hx : lfind k os m'' (told ++ [t]) (lgo k st o) with
      | none => rfl
      | some l =>
        exfalso
        have h1 := (hres.1 l hx).len
        obtain ⟨u, rfl, hu, _⟩ := lfind_some hx
        rw [nints_length] at h1
        simp at h1
        omega
theorem ref4_row_c {k : Int} {os : List LOp} {sh : SV} {own : List Ent} {ro : Addr → Option Value} {post : Value → H → Prop} (hok : LOk k os) (hsh : RdRows ⟨[], ro⟩ 6 sh (os.flatMap lopV))
    (h1 : lrow k os = none → ∀ ro', (∀ a v, ro a = some v → ro' a = some v) → post (.tuple (List.toArray [.slice none 0 0, .bool false])) ⟨own, ro'⟩)
    (h2 : ∀ (l : List Nat) (s' : SV) ro', (∀ a v, ro a = some v → ro' a = some v) → lrow k os = some l → RdSl ⟨[], ro'⟩ s' (nints l) → post (.tuple (List.toArray [.slice s'.a s'.len s'.cap, .bool true])) ⟨own, ro'⟩) :
    SemCall Tryd.prog 25 (List.toArray [.int .i64 k, .slice sh.a sh.len sh.cap]) ⟨own, ro⟩ post := by
  refine SemCall.ghost (by simpa using Gh.phantom own [] ro 0 : Gh _ ⟨own ++ [⟨none, [], 0⟩], ro⟩) ?_
  refine f25_call _ _ _ post ?_
  have shl := hsh.len lopV_len (by decide)
  refine ⟨fun s h => ∃ e, h = ⟨own ++ [e], ro⟩ ∧ OwnsSl 1 s e (ints (lin0 k)), VIf_eq (fun h0 => ?_) (fun h0 => gi ⟨_, rfl, ?_⟩), ?_⟩
  · refine app_row grows_ints (s := ⟨none, 0, 0⟩) (xs := []) (vs := [.int .i64 0]) rfl ⟨rfl, trivial⟩ own ⟨none, [], 0⟩ [] rfl (OwnsSl.nil 1) (by simp only; omega) (fun s' e' o' _ => gi ⟨e', rfl, ?_⟩)
    unfold lin0
    rw [if_pos h0]
    simpa [ints, intV] using o'
  · unfold lin0
    rw [if_neg h0]
    exact OwnsSl.nil 1
  rintro _ ss _ ⟨e, rfl, oe⟩
  refine SemCall.frz own e [] rfl oe (fun ro1 m1 r1 => ?_)
  rw [List.append_nil]
  refine ref4_rest_c hok os.length (told := []) (st := lin0 k) (sl := ⟨none, 0, 0⟩) (by simp) (by simp) (by simp) (hsh.mono (by simp) m1) ⟨rfl, fun _ => rfl, fun b hb => nomatch hb⟩ r1.sl oe.cap_le (fun h0 => ⟨0, by unfold lin0; rw [if_pos h0], by omega, by simp⟩) (fun h0 => by unfold lin0; rw [if_neg h0]; simp) (fun s' ro' m hres => ⟨s', rfl, ?_⟩)
  have mm : ∀ a v, ro a = some v → ro' a = some v := fun a v h => m a v (m1 a v h)
  have e0 : lrow k os = lfind k os os.length [] (lin0 k) := rfl
  refine VIf_dec (fun hlt => ret ?_) (fun hge => ret ?_)
  · cases hx : lrow k os with
    | none => exact h1 hx ro' mm
    | some l =>
      have h3 := (hres.1 l (by rw [← e0]; exact hx)).len
      have h4 := (lrow_some hx).1
      rw [nints_length] at h3
      omega
  · cases hx : lrow k os with
    | none => have := hres.2 (by rw [← e0]; exact hx); omega
    | some l => exact h2 l s' ro' mm hx (hres.1 l (by rw [← e0]; exact hx))
/-! ### LinSays, walked -/
theorem linSays_c {k : Int} {os : List LOp} {s : SV} {ro : Addr → Option Value} {post : Value → H → Prop} (hG : HasErrT ro) (hr : RdRows ⟨[], ro⟩ 6 s (os.flatMap lopV)) (hcap : s.len ≤ s.cap) (hpost : ∀ h, post (.bool true) h) :
    SemCall Tryd.prog 7 (List.toArray [.int .i64 k, .slice s.a s.len s.cap]) ⟨[], ro⟩ post := by
  refine f7_call _ _ _ post (ref4_hist_c hr ⟨_, rfl, lin_check_c hr hcap ⟨_, rfl, same_error_c hG ⟨_, rfl, ?_⟩⟩⟩)
  rw [decide_eq_true rfl]
  refine ⟨fun w may h => ∃ ro', (∀ a v, ro a = some v → ro' a = some v) ∧ h = ⟨[], ro'⟩ ∧ (((lcheck k os ≠ 0 ∨ lrow k os = none) ∧ w = ⟨none, 0, 0⟩ ∧ may = false) ∨ ∃ l, lcheck k os = 0 ∧ lrow k os = some l ∧ may = true ∧ RdSl ⟨[], ro'⟩ w (nints l)), VIf_eq (fun h0 => ?_) (fun h0 => gi ⟨ro, fun _ _ h => h, rfl, .inl ⟨.inl h0, rfl, rfl⟩⟩), ?_⟩
  · exact ref4_row_c (lcheck_zero.1 h0) hr (fun hn ro' m => ⟨⟨none, 0, 0⟩, _, rfl, gi ⟨ro', m, rfl, .inl ⟨.inr hn, rfl, rfl⟩⟩⟩) (fun l s' ro' m hl r' => ⟨s', _, rfl, gi ⟨ro', m, rfl, .inr ⟨l, h0, hl, rfl, r'⟩⟩⟩)
  rintro _ w may _ ⟨ro1, m1, rfl, hw⟩
  have hG1 := HasErrT.up hG m1
  have hr1 : RdRows ⟨[], ro1⟩ 6 s (os.flatMap lopV) := hr.mono (by simp) m1
  have nil_ok : ∀ {h : H}, RdSl h ⟨none, 0, 0⟩ (ints []) := fun {h} => ⟨rfl, fun _ => rfl, fun b hb => nomatch hb⟩
  have fin : ∀ {c : Int} {is : Bool} {l : SV} {xs : List Int} {X : List Ent}, c = lcheck k os → is = may → RdSl ⟨X, ro1⟩ l (ints xs) → RdSl ⟨X, ro1⟩ w (ints xs) → l.len ≤ 1000 →
      ∃ R25 : Bool → H → Prop, (VIf true (SemCall Tryd.prog 14 (List.toArray [errV (eno 58 c), .int .i64 (lcheck k os)]) ⟨X, ro1⟩ fun v26 h27 => ∃ x28, v26 = .bool x28 ∧ VIf x28 (VIf (is == may) (SemCall Tryd.prog 17 (List.toArray [.slice l.a l.len l.cap, .slice w.a w.len w.cap]) h27 fun v29 h30 => ∃ x31, v29 = .bool x31 ∧ (∃ h32, Gh h30 h32 ∧ R25 x31 h32)) (∃ h33, Gh h27 h33 ∧ R25 false h33)) (∃ h34, Gh h27 h34 ∧ R25 false h34)) (∃ h35, Gh ⟨X, ro1⟩ h35 ∧ R25 false h35)) ∧
        ∀ (_ : F) (x36 : Bool) (h37 : H), R25 x36 h37 → VRet h37 (.bool x36) post := by
    intro c is l xs X hc hi r1 r2 hl
    subst hc hi
    refine join_b (h := ⟨X, ro1⟩) true (VIf_b (fun _ => same_error_c hG1 ⟨_, rfl, ?_⟩) (nomatch ·)) (ret (hpost _))
    rw [decide_eq_true rfl]
    refine VIf_b (fun _ => VIf_eq (fun _ => same_ints_c r1 r2 (by omega) ⟨_, rfl, gi ⟨rfl, decide_eq_true rfl⟩⟩) (fun h => absurd rfl h)) (nomatch ·)
  refine lin_row_c hr1 hcap (fun hc => ⟨false, ⟨none, 0, 0⟩, _, rfl, ?_⟩) (fun hc hn => ⟨false, ⟨none, 0, 0⟩, none, rfl, ?_⟩) (fun l s' e' hc hl o' => ⟨true, s', none, rfl, ?_⟩)
  · rcases hw with ⟨_, rfl, rfl⟩ | ⟨l, h0, _⟩
    · exact fin rfl rfl nil_ok nil_ok (by simp only; omega)
    · exact absurd h0 hc
  · rcases hw with ⟨_, rfl, rfl⟩ | ⟨l, _, h0, _⟩
    · exact fin (c := 0) hc.symm rfl nil_ok nil_ok (by simp only; omega)
    · rw [hn] at h0; cases h0
  · rcases hw with ⟨h0, rfl, rfl⟩ | ⟨l', _, h0, rfl, rw'⟩
    · rcases h0 with h0 | h0
      · exact absurd hc h0
      · rw [hl] at h0; cases h0
    · rw [hl] at h0
      cases h0
      have hlen := o'.sl_len
      have h4 := (lrow_some hl).1
      have n8 := (lcheck_zero.1 hc).n
      rw [nints_length] at hlen
      exact fin (c := 0) hc.symm rfl (RdSl.of_own (e := e') (by simp) o') (rw'.mono (by simp) (fun _ _ h => h)) (by omega)
end Go.Proofs.YtnepjdobknjecaaDoor
