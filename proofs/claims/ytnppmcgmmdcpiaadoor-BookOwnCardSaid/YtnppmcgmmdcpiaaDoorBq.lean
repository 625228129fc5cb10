import Derived.Test.YtnppmcgmmdcpiaaDoorBp
namespace Go.Proofs.YtnppmcgmmdcpiaaDoor
open Go.Eng
set_option maxRecDepth 20000
/-! ### a book's calls; the document's New -/
theorem SemCall.vret {P : Program} {f : FuncId} {args : Array Value} {h : H} {q : Value → H → Prop} (H1 : SemCall P f args h fun v h' => VRet h' v q) : SemCall P f args h q :=
  fun w hw => (H1 w hw).mono fun _ w' ⟨v, _, a, b, c, h2, g, d⟩ => ⟨v, h2, a, g.holds _ b, c.trans (g.fr w'), d⟩
theorem text_c {s : BkS} {x : Bo} {ro0 : Addr → Option Value} (h : BOO s x ro0) {own : List Ent} {ro : Addr → Option Value} {post : Value → H → Prop} (A C : List Ent) (hown : own = A ++ (boL s ++ C))
    (hk : post (.string (bs x.l)) ⟨own, ro⟩) : SemCall Tryd.prog 15 (List.toArray [.pointer (some (Addr.mk s.r 0 none))]) ⟨own, ro⟩ post := by
  refine f15_call _ _ post ⟨_, rfl, ?_⟩
  simp only [add_mk', Nat.zero_add]
  exact str_c (by rw [h.l]; exact h.bf) A C hown ⟨_, rfl, ret (by rw [h.l]; exact hk)⟩
theorem bank_own {s : BkS} {x : Bo} {own : List Ent} {ro : Addr → Option Value} {post : Value → H → Prop} (h : BOO s x ro) (A C : List Ent) (hown : own = A ++ (boL s ++ C))
    (hk : ∀ (ef eC eH : Ent) (sF sC sH : SV) (X Y : List Ent) (ssC ssH : List SV), Wf ⟨own ++ (ef :: eC :: eH :: (X ++ Y)), ro⟩ → OwnsSl 1 sF ef (ints x.b.free) → OwnsSl 1 sC eC (ssC.map svV) → OwnsSl 1 sH eH (ssH.map svV) → OwPar X ssC x.b.claim → OwPar Y ssH x.b.has → post (bkV sF sC sH) ⟨own ++ (ef :: eC :: eH :: (X ++ Y)), ro⟩) :
    SemCall Tryd.prog 7 (List.toArray [.pointer (some (Addr.mk s.r 0 none))]) ⟨own, ro⟩ post := by
  refine f7_call _ _ post ?_
  intro r1 _
  simp only [add_mk', Nat.zero_add, Nat.add_zero]
  have hm : boE s ∈ own ++ [⟨some r1, [Value.slice none 0 0, .slice none 0 0, .slice none 0 0], List.length [Value.slice none 0 0, .slice none 0 0, .slice none 0 0]⟩] := by rw [hown]; simp [boL]
  refine ⟨_, rfl, s.sf, bo_rd hm 0 rfl, s.sc, bo_rd hm 1 rfl, s.sh, bo_rd hm 2 rfl, fresh_c (h.rd.mono (by simp) (fun _ _ h => h)) h.sh (fun ef eC eH sF sC sH X Y ssC ssH hw oF oC oH pC pH => ⟨sF, sC, sH, rfl, rfl, rfl, ?_⟩)⟩
  refine wro own ⟨some r1, [Value.slice none 0 0, .slice none 0 0, .slice none 0 0], 3⟩ (ef :: eC :: eH :: (X ++ Y)) ⟨rfl, rfl, rfl, trivial⟩ (by simp) rfl (by simp) ?_
  rw [show (⟨some r1, spl [Value.slice none 0 0, .slice none 0 0, .slice none 0 0] 0 [.slice sF.a sF.len sF.cap, .slice sC.a sC.len sC.cap, .slice sH.a sH.len sH.cap], 3⟩ : Ent) = bkE r1 sF sC sH from rfl]
  have hm1 : bkE r1 sF sC sH ∈ own ++ bkE r1 sF sC sH :: (ef :: eC :: eH :: (X ++ Y)) := by simp
  have hw2 : Wf ⟨own ++ (ef :: eC :: eH :: (X ++ Y)), ro⟩ := hw.sub (by rw [List.append_assoc]; exact List.Sublist.append_left (.cons _ (List.Sublist.refl _)) _)
  exact ⟨sF, bkE_0 hm1, sC, bkE_1 hm1, sH, bkE_2 hm1, ⟨⟨own ++ (ef :: eC :: eH :: (X ++ Y)), ro⟩, Gh.drop (List.Sublist.append_left (.cons _ (List.Sublist.refl _)) _), hk ef eC eH sF sC sH X Y ssC ssH hw2 oF oC oH pC pH⟩⟩
theorem bank_ro {s : BkS} {x : Bo} {own : List Ent} {ro : Addr → Option Value} {post : Value → H → Prop} (h : BOO s x ro) (A C : List Ent) (hown : own = A ++ (boL s ++ C))
    (hk : ∀ sf' sc' sh' ro', (∀ a v, ro a = some v → ro' a = some v) → BkRd ⟨[], ro'⟩ sf' sc' sh' x.b → post (bkV sf' sc' sh') ⟨own, ro'⟩) :
    SemCall Tryd.prog 7 (List.toArray [.pointer (some (Addr.mk s.r 0 none))]) ⟨own, ro⟩ post := by
  refine SemCall.vret (bank_own h A C hown (fun ef eC eH sF sC sH X Y ssC ssH hw oF oC oH pC pH => ?_))
  obtain ⟨ro', g, m, rd⟩ := bk_frz hw oF oC oH pC pH
  exact ⟨⟨own, ro'⟩, g, hk sF sC sH ro' m rd⟩
theorem ask_c {s : BkS} {x : Bo} {t : Int} {want : List Int} {sw : SV} {own : List Ent} {ro : Addr → Option Value} {post : Value → H → Prop} {T : Nat} (A C : List Ent) (hown : own = A ++ (boL s ++ C)) (hT : shE 1 T 20 ∈ A ++ C) (hG : HasTab ro)
    (h : BOO s x ro) (hw : RdSl ⟨[], ro⟩ sw (ints want))
    (hk : ∀ s' ro', (∀ a v, ro a = some v → ro' a = some v) → BOO s' (bput x false t want) ro' → s'.r = s.r → post (errV (eno 60 (bcode x false t want))) ⟨A ++ (boL s' ++ C), ro'⟩) :
    SemCall Tryd.prog 14 (List.toArray [.pointer (some (Addr.mk s.r 0 none)), .int .i64 t, .slice sw.a sw.len sw.cap]) ⟨own, ro⟩ post :=
  f14_call _ _ _ _ post (do_ask A C hown hT hG h hw (fun s' ro' m h' hr => ⟨_, rfl, ret (hk s' ro' m h' hr)⟩))
theorem back_c {s : BkS} {x : Bo} {t : Int} {want : List Int} {sw : SV} {own : List Ent} {ro : Addr → Option Value} {post : Value → H → Prop} {T : Nat} (A C : List Ent) (hown : own = A ++ (boL s ++ C)) (hT : shE 1 T 20 ∈ A ++ C) (hG : HasTab ro)
    (h : BOO s x ro) (hw : RdSl ⟨[], ro⟩ sw (ints want))
    (hk : ∀ s' ro', (∀ a v, ro a = some v → ro' a = some v) → BOO s' (bput x true t want) ro' → s'.r = s.r → post (errV (eno 60 (bcode x true t want))) ⟨A ++ (boL s' ++ C), ro'⟩) :
    SemCall Tryd.prog 13 (List.toArray [.pointer (some (Addr.mk s.r 0 none)), .int .i64 t, .slice sw.a sw.len sw.cap]) ⟨own, ro⟩ post :=
  f13_call _ _ _ _ post (do_back A C hown hT hG h hw (fun s' ro' m h' hr => ⟨_, rfl, ret (hk s' ro' m h' hr)⟩))

theorem dnew_c {b : Bk} {sf sc sh : SV} {own : List Ent} {ro : Addr → Option Value} {post : Value → H → Prop} (hb : BkRd ⟨[], ro⟩ sf sc sh b)
    (h0 : bcheck b ≠ 0 → post (.tuple (List.toArray [dV nilV nilV nilV [] 0, .int .i64 (bcheck b)])) ⟨own, ro⟩)
    (h1 : BOk b → brow b = none → ∀ ro', (∀ a v, ro a = some v → ro' a = some v) → post (.tuple (List.toArray [dV nilV nilV nilV [] 0, .int .i64 7])) ⟨own, ro'⟩)
    (h2 : BOk b → brow b ≠ none → ∀ ro', (∀ a v, ro a = some v → ro' a = some v) → post (.tuple (List.toArray [dV sf sc sh [] 0, .int .i64 0])) ⟨own, ro'⟩) :
    SemCall Tryd.prog 9 (List.toArray [bkV sf sc sh]) ⟨own, ro⟩ post := by
  refine f9_call sf sc sh _ post ?_
  intro r1 _ r3 _
  simp only [add_mk', Nat.zero_add, Nat.add_zero]
  rw [show (⟨some r3, [Value.slice none 0 0, .slice none 0 0, .slice none 0 0, .string ByteArray.empty, .int .i64 0], List.length [Value.slice none 0 0, .slice none 0 0, .slice none 0 0, .string ByteArray.empty, .int .i64 0]⟩ : Ent) = dE r3 nilV nilV nilV [] 0 from rfl,
    show (⟨some r1, [Value.slice sf.a sf.len sf.cap, .slice sc.a sc.len sc.cap, .slice sh.a sh.len sh.cap], List.length [Value.slice sf.a sf.len sf.cap, .slice sc.a sc.len sc.cap, .slice sh.a sh.len sh.cap]⟩ : Ent) = bkE r1 sf sc sh from rfl]
  have hE : ∀ {e : Ent} {X : List Ent}, bkE r1 sf sc sh ∈ own ++ [bkE r1 sf sc sh] ++ e :: X := fun {e X} => by simp
  have w3 : ∀ (x y z : SV) (n : Int) (X : List Ent) (ro2 : Addr → Option Value) (K : H → Prop), K ⟨own ++ [bkE r1 sf sc sh] ++ dE r3 x y z [] n :: X, ro2⟩ → H.wr ⟨own ++ [bkE r1 sf sc sh] ++ dE r3 nilV nilV nilV [] 0 :: X, ro2⟩ (Addr.mk r3 0 none) [.slice x.a x.len x.cap, .slice y.a y.len y.cap, .slice z.a z.len z.cap, .string ByteArray.empty, .int .i64 n] K := by
    intro x y z n X ro2 K hK
    exact wro (own ++ [bkE r1 sf sc sh]) (dE r3 nilV nilV nilV [] 0) X ⟨rfl, rfl, rfl, rfl, rfl, trivial⟩ rfl rfl (by simp [dE]) hK
  refine ⟨sf, bkE_0 hE, sc, bkE_1 hE, sh, bkE_2 hE, ref4_bank_c (hb.mono (by simp) (fun _ _ h => h)) ⟨_, rfl, VIf_ne (fun hc => ⟨rfl, rfl, w3 nilV nilV nilV 0 [] ro _ ?_⟩) (fun hc => ?_)⟩⟩
  · have hm : dE r3 nilV nilV nilV [] 0 ∈ own ++ [bkE r1 sf sc sh] ++ dE r3 nilV nilV nilV [] 0 :: [] := by simp
    exact ⟨nilV, dE_rd hm 0 rfl, nilV, dE_rd hm 1 rfl, nilV, dE_rd hm 2 rfl, bs [], dE_rd hm 3 rfl, _, dE_rd hm 4 rfl, ⟨⟨own, ro⟩, Gh.drop (by simp), h0 hc⟩⟩
  have ho := bcheck_zero.1 hc
  refine ⟨sf, bkE_0 hE, sc, bkE_1 hE, sh, bkE_2 hE, ref4_safe_c hb ho (fun hr ro' m => ⟨⟨none, 0, 0⟩, false, rfl, VIf_nb (fun _ => ⟨rfl, rfl, w3 nilV nilV nilV 0 [] ro' _ ?_⟩) (nomatch ·)⟩) (fun r s' ro' m hr _ => ⟨s', true, rfl, VIf_nb (nomatch ·) (fun _ => ?_)⟩)⟩
  · have hm : dE r3 nilV nilV nilV [] 0 ∈ own ++ [bkE r1 sf sc sh] ++ dE r3 nilV nilV nilV [] 0 :: [] := by simp
    exact ⟨nilV, dE_rd hm 0 rfl, nilV, dE_rd hm 1 rfl, nilV, dE_rd hm 2 rfl, bs [], dE_rd hm 3 rfl, _, dE_rd hm 4 rfl, ⟨⟨own, ro'⟩, Gh.drop (by simp), h1 ho hr ro' m⟩⟩
  · refine ⟨sf, bkE_0 hE, sc, bkE_1 hE, sh, bkE_2 hE, rfl, rfl, w3 sf sc sh 0 [] ro' _ ?_⟩
    have hm : dE r3 sf sc sh [] 0 ∈ own ++ [bkE r1 sf sc sh] ++ dE r3 sf sc sh [] 0 :: [] := by simp
    exact ⟨sf, dE_rd hm 0 rfl, sc, dE_rd hm 1 rfl, sh, dE_rd hm 2 rfl, bs [], dE_rd hm 3 rfl, _, dE_rd hm 4 rfl, ⟨⟨own, ro'⟩, Gh.drop (by simp), h2 ho (by rw [hr]; simp) ro' m⟩⟩
end Go.Proofs.YtnppmcgmmdcpiaaDoor
