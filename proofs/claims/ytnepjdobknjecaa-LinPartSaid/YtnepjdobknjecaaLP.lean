import Derived.Test.YtnepjdobknjecaaL9
namespace Go.Proofs.Ytnepjdobknjecaa
open Go.Eng
set_option maxRecDepth 20000
theorem eraseIdx_take {α : Type} {l : List α} {x j : Nat} {o : α} (h : l[j]? = some o) : (l.take (j + 1)).eraseIdx x = if j = x then (l.take j).eraseIdx x else (l.take j).eraseIdx x ++ [o] := by
  have hj := (List.getElem?_eq_some_iff.1 h).1
  have hl : (l.take j).length = j := by rw [List.length_take]; omega
  rw [List.take_add_one, h]
  simp only [Option.toList_some]
  split
  · rename_i he
    subst he
    rw [List.eraseIdx_append_of_length_le (by omega), hl, Nat.sub_self, List.eraseIdx_of_length_le (l := l.take j) (by omega)]
    simp
  · rename_i he
    by_cases hx : x < j
    · rw [List.eraseIdx_append_of_lt_length (by omega)]
    · rw [List.eraseIdx_of_length_le (l := l.take j) (by omega), List.eraseIdx_of_length_le (by simp; omega)]
theorem getLast_split {l : List Nat} (h : l ≠ []) : ∃ l0 x, l = l0 ++ [x] := ⟨l.dropLast, l.getLast h, (List.dropLast_concat_getLast h).symm⟩
set_option maxHeartbeats 800000 in
theorem linPart_c {k time : Int} {os : List LOp} {s : SV} {ro : Addr → Option Value} {post : Value → H → Prop} (hr : RdRows ⟨[], ro⟩ 6 s (os.flatMap lopV)) (hcap : s.len ≤ s.cap) (hpost : ∀ h, post (.bool true) h) :
    SemCall Try.prog 4 (List.toArray [.int .i64 k, .slice s.a s.len s.cap, .int .i64 time]) ⟨[], ro⟩ post := by
  refine f4_call _ _ _ _ post (lin_fact_c (fun ro1 m1 => ⟨_, rfl, VIf_nb (nomatch ·) (fun _ => ?_)⟩))
  have hr1 : RdRows ⟨[], ro1⟩ 6 s (os.flatMap lopV) := RdRows.up (h := ⟨[], ro⟩) (h2 := ⟨[], ro1⟩) hr m1
  have hsl := hr.len lopV_len (by decide)
  refine lin_row_c hr1 hcap (fun he => ?_) (fun he hl => ?_) (fun l s' e' he hl o' => ?_)
  · exact ⟨_, ⟨none, 0, 0⟩, _, rfl, join_b (h := ⟨[], ro1⟩) true (VIf_nerr (fun _ => gi ⟨rfl, rfl⟩) (fun h => absurd h he)) (VIf_b (fun _ => ret (hpost _)) (nomatch ·))⟩
  · exact ⟨_, ⟨none, 0, 0⟩, none, rfl, join_b (h := ⟨[], ro1⟩) true (VIf_nnil (gi ⟨rfl, rfl⟩)) (VIf_b (fun _ => ret (hpost _)) (nomatch ·))⟩
  · have hok := lcheck_zero.1 he
    have hlg := lrow_good hok.t hl
    have hn := hok.n
    have hll := o'.sl_len
    rw [nints_length] at hll
    have hlen := hlg.len
    refine ⟨_, s', none, rfl, join_b (h := ⟨[] ++ [e'], ro1⟩) false (VIf_nnil (gi ⟨rfl, rfl⟩)) (VIf_b (nomatch ·) (fun _ => ?_))⟩
    rw [List.nil_append]
    have hrow : ∀ {X : List Ent} {ro2 : Addr → Option Value} (_ : ∀ a v, ro1 a = some v → ro2 a = some v) {j : Nat} (hj : j < os.length), ∃ b o, s.a = some b ∧ os[j]? = some o ∧ ∀ q v, (lopV o)[q]? = some v → H.rd ⟨X, ro2⟩ (Addr.add (Addr.add b ((j : Int).toNat * 6)) q) v := by
      intro X ro2 hm j hj
      obtain ⟨b, o, h1, h2, h3⟩ := hr1.row lopV_len (by decide) (i := (j : Int)) (by omega) (by omega)
      exact ⟨b, o, h1, by simpa using h2, fun q v hq => (h3 q v hq).mono (by simp) hm⟩
    have idm : ∀ {ro2 : Addr → Option Value} a v, ro2 a = some v → ro2 a = some v := fun _ _ h => h
    refine ⟨fun h => ∃ X ro2, (∀ a v, ro1 a = some v → ro2 a = some v) ∧ h = ⟨X, ro2⟩, VIf_dec (fun hpos => ?_) (fun _ => gi ⟨_, ro1, idm, rfl⟩), ?_⟩
    · obtain ⟨l0, x, rfl⟩ := getLast_split (l := l) (by rintro rfl; simp at hll; omega)
      have hxl := hlg.lt x (by simp)
      have hi : (((s'.len : Nat) : Int) - 1).toNat = l0.length := by simp at hll; omega
      have rl : ∀ {X : List Ent}, RdSl ⟨e' :: X, ro1⟩ s' (ints ((l0 ++ [x]).map Int.ofNat)) := fun {X} => RdSl.of_own (by simp) o'
      obtain ⟨b, hb⟩ := (rl (X := [])).addr (by simp)
      have rx : ∀ {X : List Ent}, H.rd ⟨e' :: X, ro1⟩ (Addr.add (Addr.add b ((((s'.len : Nat) : Int) - 1).toNat * 1)) 0) (.int .i64 (x : Int)) := fun {X} => by rw [hi]; exact rl.rdi hb (by simp)
      simp only [List.length_append, List.length_cons, List.length_nil] at hll hlen
      refine ⟨⟨by omega, by omega⟩, b, hb, by omega, by omega, _, rx, ⟨by omega, by omega⟩, in_i (fun hc => by omega) (fun _ _ => ⟨_, rfl, VIf_nb (nomatch ·) (fun _ => ?_)⟩)⟩
      refine ⟨fun sl h => ∃ e2, h = ⟨[e', e2], ro1⟩ ∧ OwnsSl 6 sl e2 ((os.eraseIdx x).flatMap lopV), ⟨fun n sl i h => ∃ (j : Nat) (e2 : Ent), i = (j : Int) ∧ j ≤ os.length ∧ n = os.length - j ∧ h = ⟨[e', e2], ro1⟩ ∧ OwnsSl 6 sl e2 (((os.take j).eraseIdx x).flatMap lopV),
        ⟨_, ⟨[e', ⟨none, [], 0⟩], ro1⟩, by simpa using Gh.phantom [e'] [] ro1 0, 0, _, rfl, Nat.zero_le _, rfl, rfl, by simpa using OwnsSl.nil 6⟩, ?_⟩, ?_⟩
      · rintro n _ sl i _ ⟨j, e2, rfl, hj, rfl, rfl, o2⟩
        refine VIf_dec (fun hi2 => ?_) (fun hi2 => gi ⟨e2, rfl, ?_⟩)
        rotate_left
        · rw [List.take_of_length_le (by omega)] at o2; exact o2
        have hjl : j < os.length := by omega
        obtain ⟨bs, o, hbs, ho, hrd⟩ := hrow (X := [e', e2]) idm hjl
        refine ⟨⟨by omega, by omega⟩, b, hb, by omega, by omega, _, rx, VIf_ne (fun hne => ?_) (fun heq => ?_)⟩
        · refine ⟨bs, hbs, by omega, hi2, _, hrd 0 _ rfl, _, hrd 1 _ rfl, _, hrd 2 _ rfl, _, hrd 3 _ rfl, _, hrd 4 _ rfl, _, hrd 5 _ rfl, ?_⟩
          have hlt := o2.rows_len lopV_len (by decide)
          have hle : ((os.take j).eraseIdx x).length ≤ os.length := Nat.le_trans (List.length_eraseIdx_le _ _) (by rw [List.length_take]; omega)
          refine app_row grows_ops (vs := lopV o) rfl (allOne_lop o) [e'] e2 [] rfl o2 (by omega) (fun s2 e3 o3 _ => ⟨⟨by omega, by omega⟩, os.length - (j + 1), by omega, gi ⟨j + 1, e3, by omega, by omega, rfl, rfl, ?_⟩⟩)
          rw [eraseIdx_take ho, if_neg (by omega), List.flatMap_append]
          simpa using o3
        · refine ⟨⟨by omega, by omega⟩, os.length - (j + 1), by omega, gi ⟨j + 1, e2, by omega, by omega, rfl, rfl, ?_⟩⟩
          rw [eraseIdx_take ho, if_pos (by omega)]
          exact o2
      · rintro _ sl _ ⟨e2, rfl, o2⟩
        have hok2 : LOk k (os.eraseIdx x) := hok.sub (List.eraseIdx_sublist _ _)
        obtain ⟨m, hm⟩ := (LGood.less hlg).row hok2.t
        refine SemCall.frz [e'] e2 [] rfl o2 (fun ro2 m2 r2 => lin_row_c r2 o2.cap_le (fun hc => absurd (lcheck_zero.2 hok2) hc) (fun _ hl2 => by rw [hm] at hl2; cases hl2) (fun l2 s2 e3 _ hl2 o3 => ?_))
        refine ⟨_, s2, none, rfl, join_b (h := ⟨[e'] ++ [] ++ [e3], ro2⟩) false (VIf_nnil (gi ⟨rfl, rfl⟩)) (VIf_b (nomatch ·) (fun _ => gi ⟨_, ro2, m2, rfl⟩))⟩
    · rintro _ _ ⟨X, ro2, m2, rfl⟩
      refine ⟨fun h => h = ⟨X, ro2⟩ ∧ ∀ (j : Nat) o, os[j]? = some o → ¬ (o.frm < time ∧ time < o.too), ⟨fun n i h => ∃ j : Nat, i = (j : Int) ∧ j ≤ os.length ∧ n = os.length - j ∧ h = ⟨X, ro2⟩ ∧ ∀ (j' : Nat) o, j' < j → os[j']? = some o → ¬ (o.frm < time ∧ time < o.too), ⟨_, gi ⟨0, rfl, Nat.zero_le _, rfl, rfl, fun _ _ h => by omega⟩⟩, ?_⟩, ?_⟩
      · rintro n _ i _ ⟨j, rfl, hj, rfl, rfl, hp⟩
        refine VIf_dec (fun hi => ?_) (fun hi => gi ⟨rfl, fun j' o ho => hp j' o (by have := (List.getElem?_eq_some_iff.1 ho).1; omega) ho⟩)
        have hjl : j < os.length := by omega
        obtain ⟨bs, o, hbs, ho, hrd⟩ := hrow (X := X) m2 hjl
        have rd0 : ∀ q v, (lopV o)[q]? = some v → H.rd ⟨X, ro2⟩ (Addr.add (Addr.add (Addr.add bs ((j : Int).toNat * 6)) q) 0) v := fun q v h => by rw [Addr.add_zero']; exact hrd q v h
        refine join_b (h := ⟨X, ro2⟩) (decide (o.frm < time ∧ time < o.too)) ⟨bs, hbs, by omega, hi, _, rd0 4 _ rfl, VIf_dec (fun h1 => ⟨bs, hbs, by omega, hi, _, rd0 5 _ rfl, gi ⟨rfl, ?_⟩⟩) (fun h1 => gi ⟨rfl, ?_⟩)⟩ (VIf_dec (fun _ => ret (hpost _)) (fun hno => ⟨⟨by omega, by omega⟩, os.length - (j + 1), by omega, gi ⟨j + 1, by omega, by omega, rfl, rfl, fun j' o' hj' ho' => ?_⟩⟩))
        · exact decide_eq_decide.2 ⟨fun h => ⟨h1, h⟩, fun h => h.2⟩
        · exact (decide_eq_false (fun h => h1 h.1)).symm
        · by_cases he : j' = j
          · subst he
            rw [ho] at ho'; cases ho'
            exact hno
          · exact hp j' o' (by omega) ho'
      · rintro _ _ ⟨rfl, hno⟩
        refine ⟨fun sl h => ∃ e2, h = ⟨X ++ [e2], ro2⟩ ∧ OwnsSl 6 sl e2 ((os.filter fun o => decide (o.too ≤ time)).flatMap lopV), ⟨fun n sl i h => ∃ (j : Nat) (e2 : Ent), i = (j : Int) ∧ j ≤ os.length ∧ n = os.length - j ∧ h = ⟨X ++ [e2], ro2⟩ ∧ OwnsSl 6 sl e2 (((os.take j).filter fun o => decide (o.too ≤ time)).flatMap lopV),
          ⟨_, ⟨X ++ [⟨none, [], 0⟩], ro2⟩, by simpa using Gh.phantom X [] ro2 0, 0, _, rfl, Nat.zero_le _, rfl, rfl, by simpa using OwnsSl.nil 6⟩, ?_⟩, ?_⟩
        · rintro n _ sl i _ ⟨j, e2, rfl, hj, rfl, rfl, o2⟩
          refine VIf_dec (fun hi2 => ?_) (fun hi2 => gi ⟨e2, rfl, ?_⟩)
          rotate_left
          · rw [List.take_of_length_le (by omega)] at o2; exact o2
          have hjl : j < os.length := by omega
          obtain ⟨bs, o, hbs, ho, hrd⟩ := hrow (X := X ++ [e2]) m2 hjl
          have hfl : (os.take (j + 1)).filter (fun o => decide (o.too ≤ time)) = (os.take j).filter (fun o => decide (o.too ≤ time)) ++ if o.too ≤ time then [o] else [] := by
            rw [List.take_add_one, ho, List.filter_append]
            congr 1
            by_cases h : o.too ≤ time <;> simp [h]
          refine ⟨bs, hbs, by omega, hi2, o.too, by rw [Addr.add_zero']; exact hrd 5 _ rfl, VIf_dec (fun hle => ?_) (fun hle => ?_)⟩
          · refine ⟨bs, hbs, by omega, hi2, _, hrd 0 _ rfl, _, hrd 1 _ rfl, _, hrd 2 _ rfl, _, hrd 3 _ rfl, _, hrd 4 _ rfl, _, hrd 5 _ rfl, ?_⟩
            have hlt := o2.rows_len lopV_len (by decide)
            have hle2 : ((os.take j).filter fun o => decide (o.too ≤ time)).length ≤ os.length := Nat.le_trans (List.length_filter_le _ _) (by rw [List.length_take]; omega)
            refine app_row grows_ops (vs := lopV o) rfl (allOne_lop o) X e2 [] rfl o2 (by omega) (fun s2 e3 o3 _ => ⟨⟨by omega, by omega⟩, os.length - (j + 1), by omega, gi ⟨j + 1, e3, by omega, by omega, rfl, rfl, ?_⟩⟩)
            rw [hfl, if_pos hle, List.flatMap_append]
            simpa using o3
          · refine ⟨⟨by omega, by omega⟩, os.length - (j + 1), by omega, gi ⟨j + 1, e2, by omega, by omega, rfl, rfl, ?_⟩⟩
            rw [hfl, if_neg hle, List.append_nil]
            exact o2
        · rintro _ sl _ ⟨e2, rfl, o2⟩
          have hok2 : LOk k (os.filter fun o => decide (o.too ≤ time)) := hok.sub List.filter_sublist
          obtain ⟨m, hm⟩ := (hlg.seq.early (fun o ho => by obtain ⟨j, hj⟩ := List.mem_iff_getElem?.1 ho; exact hno j o hj)).row hok2.t
          refine SemCall.frz X e2 [] rfl o2 (fun ro3 m3 r3 => lin_row_c r3 o2.cap_le (fun hc => absurd (lcheck_zero.2 hok2) hc) (fun _ hl2 => by rw [hm] at hl2; cases hl2) (fun l2 s2 e3 _ hl2 o3 => ?_))
          exact ⟨_, s2, none, rfl, join_b (h := ⟨X ++ [] ++ [e3], ro3⟩) true (VIf_nil (gi ⟨rfl, rfl⟩)) (ret (hpost _))⟩
end Go.Proofs.Ytnepjdobknjecaa
