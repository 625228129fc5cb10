import Derived.Test.YtockhbbpcbcenaaCu
import Derived.Test.YtockhbbpcbcenaaEngJ
namespace Go.Proofs.Ytockhbbpcbcenaa
open Go.Eng
set_option maxRecDepth 20000
theorem combCrash_c {n : Int} {st : SV} {rows : List (SV × List Int)} {keep : Bool} {ro : Addr → Option Value} {post : Value → H → Prop} (hr : RdRowsOf ⟨[], ro⟩ st rows) (hpost : ∀ h, post (.bool true) h) :
    SemCall Try.prog 4 (List.toArray [.int .i64 n, .slice st.a st.len st.cap, .bool keep]) ⟨[], ro⟩ post := by
  refine f4_call _ _ _ _ post ?_
  refine comb_fact_c ⟨_, rfl, VIf_nb (nomatch ·) (fun _ => ?_)⟩
  refine cv_new (fun hc => ⟨_, _, rfl, VIf_nerr (fun _ => ?_) (nomatch ·)⟩) (fun p L hs c0 c1 => ⟨_, none, rfl, VIf_nnil ?_⟩)
  · exact join_or (ret (by rw [decide_eq_true (show n < 1 ∨ n > 4 by omega)]; exact hpost _))
  have hr : ∀ {own}, RdRowsOf ⟨own, ro⟩ st rows := hr.mono (by simp) (fun _ _ h => h)
  have htr : ∀ {own} {i : Nat} {t xs}, rows[i]? = some (t, xs) → RdSl ⟨own, ro⟩ t (ints xs) := fun {own} i t xs ht => hr.2 _ (List.mem_of_getElem? ht)
  have hmono : ∀ {c i j L}, CV p c i L → i ≤ j → CV p c j L := fun ⟨m, a, b, d⟩ h => ⟨m, a, b, d.mono h⟩
  refine ⟨fun h => ∃ L c, h = ⟨L, ro⟩ ∧ c.n = n ∧ CV p c 600 L, ⟨fun k i h => ∃ L c, h = ⟨L, ro⟩ ∧ c.n = n ∧ CV p c (i * 3) L ∧ 0 ≤ i ∧ i ≤ 200 ∧ k = (200 - i).toNat, ⟨200, gi ⟨L, _, rfl, rfl, hs, by omega, by omega, rfl⟩⟩, ?_⟩, ?_⟩
  · rintro k _ i h ⟨L, c, rfl, hn, hs, hi0, hi1, rfl⟩
    refine join_and (VIf_dec (fun hi => ?_) (fun _ => gi ⟨L, c, rfl, hn, hmono hs (by omega)⟩))
    refine hr.idx hi0 hi.1 fun t xs ht _ => ?_
    refine ⟨fun h => ∃ L c, h = ⟨L, ro⟩ ∧ c.n = n ∧ CV p c (i * 3 + 1) L, VIf_eq (fun h2 => ?_) (fun _ => gi ⟨L, c, rfl, hn, hmono hs (by omega)⟩), ?_⟩
    · refine (htr ht).idx (by omega) (by omega) fun x0 _ => (htr ht).idx (by omega) (by omega) fun x1 _ => ?_
      refine cv_begin [] [] (by simp) hs (by omega) (fun L' c' e h' hx => ⟨_, rfl, gi ⟨L', c', by simp, ?_, h'⟩⟩)
      rcases hx with ⟨_, rfl⟩ | ⟨_, k, _, _, _, _, _, _, rfl⟩ <;> exact hn
    clear hs hn
    rintro _ h ⟨L, c, rfl, hn, hs⟩
    refine VIf_eq (fun h3 => ?_) (fun _ => ?_)
    · refine (htr ht).idx (by omega) (by omega) fun x0 _ => ?_
      refine cv_step [] [] (by simp) hs (by omega) (fun L' c' b g e h' hx => ⟨_, _, _, rfl, ⟨by omega, by omega⟩, _, ?_, gi ⟨L', c', by simp, ?_, hmono h' (by omega), by omega, by omega, rfl⟩⟩)
      · omega
      rcases hx with ⟨_, rfl, _⟩ | ⟨_, k, _, _, _, _, hl⟩
      · exact hn
      · cases hl <;> exact hn
    · refine ⟨⟨by omega, by omega⟩, _, ?_, gi ⟨L, c, rfl, hn, hmono hs (by omega), by omega, by omega, rfl⟩⟩
      omega
  clear hs L
  rintro _ h ⟨L, c, rfl, hn, hs⟩
  have hci : CI c 600 := by obtain ⟨m, a, b, d⟩ := hs; exact d
  refine cv_sum hs (fun _ h => h) (by omega) ⟨_, rfl, ?_⟩
  refine ⟨fun s h => ∃ e xs, h = ⟨L ++ [e], ro⟩ ∧ OwnsSl 1 s e (ints xs) ∧ xs.length = 2 * n.toNat ∧ ∀ j : Nat, j < n.toNat → xs[2 * j]? = some (c.D c.W j) ∧ xs[2 * j + 1]? = some (c.G c.W j), ⟨fun k s q h => ∃ e xs, h = ⟨L ++ [e], ro⟩ ∧ OwnsSl 1 s e (ints xs) ∧ 0 ≤ q ∧ q ≤ n ∧ k = (n - q).toNat ∧ xs.length = 2 * q.toNat ∧ ∀ j : Nat, j < q.toNat → xs[2 * j]? = some (c.D c.W j) ∧ xs[2 * j + 1]? = some (c.G c.W j), ⟨_, _, by simpa using Gh.phantom L [] ro 0, _, [], rfl, OwnsSl.nil 1, by omega, by omega, rfl, rfl, fun j h => by simp at h⟩, ?_⟩, ?_⟩
  · rintro k _ s q h ⟨e, xs, rfl, ho, hq0, hq1, rfl, hlen, hx⟩
    refine VIf_dec (fun hi => ?_) (fun hi => gi ⟨e, xs, rfl, ho, by rw [show n = q by omega]; exact hlen, fun j hj => hx j (by omega)⟩)
    have hsl := ho.sl_len
    rw [ints_length] at hsl
    refine cv_done hs (fun _ h => List.mem_append_left _ h) (by omega) hq0 (by omega) ⟨_, _, rfl, ?_⟩
    refine app_row grows_ints (vs := [.int .i64 (c.D c.W q.toNat)]) rfl ⟨rfl, trivial⟩ L e [] rfl ho (by omega) (fun s2 e2 o2 l2 => ?_)
    refine app_row grows_ints (vs := [.int .i64 (c.G c.W q.toNat)]) rfl ⟨rfl, trivial⟩ L e2 [] rfl o2 (by omega) (fun s3 e3 o3 l3 => ?_)
    refine ⟨⟨by omega, by omega⟩, _, ?_, gi ⟨e3, xs ++ [c.D c.W q.toNat, c.G c.W q.toNat], rfl, ?_, by omega, by omega, rfl, ?_, fun j hj => ?_⟩⟩
    · omega
    · simpa [ints, intV] using o3
    · simp; omega
    · by_cases hj' : j < q.toNat
      · rw [List.getElem?_append_left (by omega), List.getElem?_append_left (by omega)]; exact hx j hj'
      · obtain rfl : j = q.toNat := by omega
        rw [List.getElem?_append_right (by omega), List.getElem?_append_right (by omega), hlen, show 2 * q.toNat - 2 * q.toNat = 0 by omega, show 2 * q.toNat + 1 - 2 * q.toNat = 1 by omega]
        exact ⟨rfl, rfl⟩
  rintro _ s h ⟨e, xs, rfl, ho, hlen, hx⟩
  have hsl := ho.sl_len
  rw [ints_length] at hsl
  refine cv_crash [] [e] (by simp) hs (fun L1 h1 => ⟨rfl, ?_⟩)
  obtain ⟨s1, s2⟩ := csCrash_same hci keep
  refine cv_sum h1 (fun _ h => by simp [h]) (by omega) ⟨_, rfl, VIf_ne (fun hc => absurd s1 hc) (fun _ => ?_)⟩
  refine ⟨fun _ => True, ⟨fun k q h => h = ⟨[] ++ (L1 ++ [e]), ro⟩ ∧ 0 ≤ q ∧ q ≤ n ∧ k = (n - q).toNat, ⟨_, gi ⟨rfl, by omega, by omega, rfl⟩⟩, ?_⟩, fun _ h _ => ret (hpost h)⟩
  rintro k _ q h ⟨rfl, hq0, hq1, rfl⟩
  refine VIf_dec (fun hi => ?_) (fun hi => gi trivial)
  have hn4 := hci.n4
  have hrd : RdSl ⟨[] ++ (L1 ++ [e]), ro⟩ s (ints xs) := RdSl.of_own (e := e) (by simp) ho
  obtain ⟨x1, x2⟩ := hx q.toNat (by omega)
  obtain ⟨d1, d2⟩ := s2 q.toNat (by omega)
  refine cv_done h1 (fun _ h => by simp [h]) (by omega) hq0 (by simp only [csCrash]; omega) ⟨_, _, rfl, ?_⟩
  refine join_b (h := ⟨[] ++ (L1 ++ [e]), ro⟩) false ⟨⟨by omega, by omega⟩, hrd.idx (by omega) (by omega) fun y hy => ?_⟩ (VIf_b (nomatch ·) (fun _ => ⟨⟨by omega, by omega⟩, _, ?_, gi ⟨rfl, by omega, by omega, rfl⟩⟩))
  · rw [show (2 * q).toNat = 2 * q.toNat by omega, x1] at hy
    cases hy
    refine VIf_ne (fun hc => absurd d1 hc) (fun _ => ⟨⟨by omega, by omega⟩, ⟨by omega, by omega⟩, hrd.idx (by omega) (by omega) fun y hy => ?_⟩)
    rw [show (2 * q + 1).toNat = 2 * q.toNat + 1 by omega, x2] at hy
    cases hy
    refine VIf_ne (fun hc => absurd d2 hc) (fun _ => ?_)
    exact cv_at h1 (fun _ h => by simp [h]) (by omega) hq0 (by simp only [csCrash]; omega) ⟨_, rfl, gi ⟨rfl, rfl⟩⟩
  · omega
end Go.Proofs.Ytockhbbpcbcenaa
