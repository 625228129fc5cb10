import Derived.WalkKit
import Derived.Shelf.Strconv.AtoiAll
import Derived.Shelf.Strings.Split
import Derived.Shelf.Strings.LastIndex
import Derived.Shelf.Small.Wraps
import Derived.Shelf.Small.Strs
import Derived.Shelf.Strings.Prefix
import Derived.Test.YtnppmcgmmdcpiaaGreatDoorProg
import Derived.Laws.Strings
import Derived.Test.YtnppmcgmmdcpiaaGreatDoorKD
import Derived.Test.YtnppmcgmmdcpiaaGreatDoorT3
import Derived.Deep.RegionWith
import Derived.IntWalk
import Derived.BigRegionIn
import Derived.RegionIn
import Derived.LoopIn
import Derived.LoopNIn
import Derived.TacticsInMore
import Derived.RangeFuncRecord
import Derived.RangeFuncLeaves
import Derived.RangeFuncBox
import Derived.Test.YtnppmcgmmdcpiaaGreatDoorEngK
namespace Go.Proofs.YtnppmcgmmdcpiaaGreatDoor
open Go Go.Proofs Go.RowKit
def slib : Go.Shelf.Ren where
  f := fun n => match n with
    | 102 => 44
    | 104 => 29
    | 129 => 134
    | 137 => 51
    | 138 => 104
    | 143 => 105
    | 146 => 56
    | 149 => 53
    | 171 => 64
    | 172 => 84
    | 195 => 118
    | 197 => 119
    | 205 => 128
    | 207 => 82
    | 209 => 76
    | 211 => 52
    | 217 => 81
    | 218 => 120
    | 219 => 121
    | 221 => 85
    | 222 => 83
    | 224 => 131
    | 225 => 130
    | 243 => 94
    | 244 => 101
    | 245 => 102
    | 246 => 111
    | 247 => 113
    | 260 => 129
    | 266 => 100
    | 267 => 132
    | 268 => 103
    | 279 => 114
    | 280 => 115
    | 281 => 116
    | 282 => 117
    | 283 => 122
    | 284 => 123
    | 285 => 124
    | 286 => 125
    | 287 => 126
    | 314 => 140
    | 316 => 127
    | 317 => 133
    | 318 => 135
    | 319 => 136
    | 320 => 137
    | 321 => 138
    | 322 => 139
    | 337 => 141
    | 338 => 142
    | _ => 0
  t := fun n => match n with
    | 0 => 0
    | 2 => 2
    | 3 => 3
    | 4 => 4
    | 5 => 5
    | 9 => 9
    | 20 => 20
    | 21 => 21
    | 24 => 61
    | 31 => 67
    | 37 => 35
    | 46 => 174
    | 51 => 180
    | 53 => 167
    | 75 => 32
    | 76 => 78
    | 80 => 30
    | 85 => 159
    | 105 => 164
    | 119 => 188
    | 127 => 86
    | 138 => 190
    | 139 => 191
    | 143 => 185
    | 145 => 187
    | 146 => 192
    | 167 => 158
    | 168 => 161
    | 171 => 166
    | 173 => 170
    | 175 => 172
    | 210 => 176
    | 212 => 179
    | 213 => 181
    | 232 => 195
    | 233 => 196
    | _ => 0
  g := fun n => match n with
    | 1 => 1
    | 3 => 5
    | 4 => 6
    | 15 => 2
    | 16 => 3
    | 17 => 4
    | 18 => 7
    | 19 => 8
    | _ => 0
theorem slib_LaysC_n172 : Go.Proofs.LaysC.n172 Tryz.prog slib where
  mixed := by kernel_rfl
  f129 := by kernel_rfl
  f171 := by kernel_rfl
  f172 := by kernel_rfl
  f205 := by kernel_rfl
  f243 := by kernel_rfl
  f244 := by kernel_rfl
  f245 := by kernel_rfl
  f246 := by kernel_rfl
  f247 := by kernel_rfl
  f279 := by kernel_rfl
  f280 := by kernel_rfl
  f281 := by kernel_rfl
  f282 := by kernel_rfl
  f283 := by kernel_rfl
  f284 := by kernel_rfl
  f285 := by kernel_rfl
  f286 := by kernel_rfl
  f287 := by kernel_rfl
  f316 := by kernel_rfl
  f317 := by kernel_rfl
  f318 := by kernel_rfl
  f319 := by kernel_rfl
  f320 := by kernel_rfl
  f321 := by kernel_rfl
  f322 := by kernel_rfl
  f337 := by kernel_rfl
  f338 := by kernel_rfl
  t0 := by kernel_rfl
  a0 := fun w => by kernel_rfl
  z0 := fun w => by kernel_rfl
  v0 := fun w => by kernel_rfl
  t2 := by kernel_rfl
  a2 := fun w => by kernel_rfl
  z2 := fun w => by kernel_rfl
  v2 := fun w => by kernel_rfl
  t3 := by kernel_rfl
  a3 := fun w => by kernel_rfl
  z3 := fun w => by kernel_rfl
  v3 := fun w => by kernel_rfl
  t4 := by kernel_rfl
  a4 := fun w => by kernel_rfl
  z4 := fun w => by kernel_rfl
  v4 := fun w => by kernel_rfl
  t5 := by kernel_rfl
  a5 := fun w => by kernel_rfl
  z5 := fun w => by kernel_rfl
  v5 := fun w => by kernel_rfl
  t9 := by kernel_rfl
  a9 := fun w => by kernel_rfl
  z9 := fun w => by kernel_rfl
  v9 := fun w => by kernel_rfl
  t20 := by kernel_rfl
  a20 := fun w => by kernel_rfl
  z20 := fun w => by kernel_rfl
  v20 := fun w => by kernel_rfl
  t21 := by kernel_rfl
  a21 := fun w => by kernel_rfl
  z21 := fun w => by kernel_rfl
  v21 := fun w => by kernel_rfl
  t37 := by kernel_rfl
  a37 := fun w => by kernel_rfl
  z37 := fun w => by kernel_rfl
  v37 := fun w => by kernel_rfl
  t46 := by kernel_rfl
  a46 := fun w => by kernel_rfl
  z46 := fun w => by kernel_rfl
  v46 := fun w => by kernel_rfl
  t51 := by kernel_rfl
  a51 := fun w => by kernel_rfl
  z51 := fun w => by kernel_rfl
  v51 := fun w => by kernel_rfl
  t53 := by kernel_rfl
  a53 := fun w => by kernel_rfl
  z53 := fun w => by kernel_rfl
  v53 := fun w => by kernel_rfl
  t75 := by kernel_rfl
  a75 := fun w => by kernel_rfl
  z75 := fun w => by kernel_rfl
  v75 := fun w => by kernel_rfl
  t76 := by kernel_rfl
  a76 := fun w => by kernel_rfl
  z76 := fun w => by kernel_rfl
  v76 := fun w => by kernel_rfl
  t85 := by kernel_rfl
  a85 := fun w => by kernel_rfl
  z85 := fun w => by kernel_rfl
  v85 := fun w => by kernel_rfl
  t127 := by kernel_rfl
  a127 := fun w => by kernel_rfl
  z127 := fun w => by kernel_rfl
  v127 := fun w => by kernel_rfl
  t143 := by kernel_rfl
  a143 := fun w => by kernel_rfl
  z143 := fun w => by kernel_rfl
  v143 := fun w => by kernel_rfl
  t145 := by kernel_rfl
  a145 := fun w => by kernel_rfl
  z145 := fun w => by kernel_rfl
  v145 := fun w => by kernel_rfl
  t167 := by kernel_rfl
  a167 := fun w => by kernel_rfl
  z167 := fun w => by kernel_rfl
  v167 := fun w => by kernel_rfl
  t168 := by kernel_rfl
  a168 := fun w => by kernel_rfl
  z168 := fun w => by kernel_rfl
  v168 := fun w => by kernel_rfl
  t171 := by kernel_rfl
  a171 := fun w => by kernel_rfl
  z171 := fun w => by kernel_rfl
  v171 := fun w => by kernel_rfl
  t173 := by kernel_rfl
  a173 := fun w => by kernel_rfl
  z173 := fun w => by kernel_rfl
  v173 := fun w => by kernel_rfl
  t175 := by kernel_rfl
  a175 := fun w => by kernel_rfl
  z175 := fun w => by kernel_rfl
  v175 := fun w => by kernel_rfl
  t210 := by kernel_rfl
  a210 := fun w => by kernel_rfl
  z210 := fun w => by kernel_rfl
  v210 := fun w => by kernel_rfl
  t212 := by kernel_rfl
  a212 := fun w => by kernel_rfl
  z212 := fun w => by kernel_rfl
  v212 := fun w => by kernel_rfl
  t213 := by kernel_rfl
  a213 := fun w => by kernel_rfl
  z213 := fun w => by kernel_rfl
  t232 := by kernel_rfl
  a232 := fun w => by kernel_rfl
  z232 := fun w => by kernel_rfl
  v232 := fun w => by kernel_rfl
  t233 := by kernel_rfl
  a233 := fun w => by kernel_rfl
  z233 := fun w => by kernel_rfl
  v233 := fun w => by kernel_rfl
  g15 := by kernel_rfl
  g16 := by kernel_rfl
  g17 := by kernel_rfl
  g18 := by kernel_rfl
  g19 := by kernel_rfl
  t80 := by kernel_rfl
  a80 := fun w => by kernel_rfl
  z80 := fun w => by kernel_rfl
  v80 := fun w => by kernel_rfl
  i0 := by kernel_rfl
  i2 := by kernel_rfl
  i3 := by kernel_rfl
  i4 := by kernel_rfl
  i5 := by kernel_rfl
  i9 := by kernel_rfl
  i20 := by kernel_rfl
  i21 := by kernel_rfl
  i37 := by kernel_rfl
  i46 := by kernel_rfl
  i51 := by kernel_rfl
  i53 := by kernel_rfl
  i75 := by kernel_rfl
  i76 := by kernel_rfl
  i80 := by kernel_rfl
  i85 := by kernel_rfl
  i127 := by kernel_rfl
  i143 := by kernel_rfl
  i145 := by kernel_rfl
  i167 := by kernel_rfl
  i168 := by kernel_rfl
  i171 := by kernel_rfl
  i173 := by kernel_rfl
  i175 := by kernel_rfl
  i210 := by kernel_rfl
  i212 := by kernel_rfl
  i232 := by kernel_rfl
  i233 := by kernel_rfl
  m15 := by kernel_rfl
  m16 := by kernel_rfl
  m17 := by kernel_rfl
  m18 := by kernel_rfl
  m19 := by kernel_rfl
  c0 := by kernel_rfl
  c2 := by kernel_rfl
  c3 := by kernel_rfl
  c4 := by kernel_rfl
  c5 := by kernel_rfl
  c9 := by kernel_rfl
  c20 := by kernel_rfl
  c21 := by kernel_rfl
  c37 := by kernel_rfl
  c46 := by kernel_rfl
  c51 := by kernel_rfl
  c53 := by kernel_rfl
  c75 := by kernel_rfl
  c76 := by kernel_rfl
  c80 := by kernel_rfl
  c85 := by kernel_rfl
  c127 := by kernel_rfl
  c143 := by kernel_rfl
  c145 := by kernel_rfl
  c167 := by kernel_rfl
  c168 := by kernel_rfl
  c171 := by kernel_rfl
  c173 := by kernel_rfl
  c175 := by kernel_rfl
  c210 := by kernel_rfl
  c212 := by kernel_rfl
  c213 := by kernel_rfl
  c232 := by kernel_rfl
  c233 := by kernel_rfl
theorem slib_Lays_n146 : Go.Proofs.Lays.n146 Tryz.prog slib where
  mixed := by kernel_rfl
  f138 := by kernel_rfl
  f143 := by kernel_rfl
  f146 := by kernel_rfl
  f195 := by kernel_rfl
  f197 := by kernel_rfl
  f217 := by kernel_rfl
  f218 := by kernel_rfl
  f219 := by kernel_rfl
  f221 := by kernel_rfl
  f224 := by kernel_rfl
  f225 := by kernel_rfl
  f260 := by kernel_rfl
  f266 := by kernel_rfl
  f267 := by kernel_rfl
  f268 := by kernel_rfl
  f314 := by kernel_rfl
  t0 := by kernel_rfl
  a0 := fun w => by kernel_rfl
  z0 := fun w => by kernel_rfl
  v0 := fun w => by kernel_rfl
  t3 := by kernel_rfl
  a3 := fun w => by kernel_rfl
  z3 := fun w => by kernel_rfl
  v3 := fun w => by kernel_rfl
  t4 := by kernel_rfl
  a4 := fun w => by kernel_rfl
  z4 := fun w => by kernel_rfl
  v4 := fun w => by kernel_rfl
  t5 := by kernel_rfl
  a5 := fun w => by kernel_rfl
  z5 := fun w => by kernel_rfl
  v5 := fun w => by kernel_rfl
  t9 := by kernel_rfl
  a9 := fun w => by kernel_rfl
  z9 := fun w => by kernel_rfl
  v9 := fun w => by kernel_rfl
  t21 := by kernel_rfl
  a21 := fun w => by kernel_rfl
  z21 := fun w => by kernel_rfl
  v21 := fun w => by kernel_rfl
  t31 := by kernel_rfl
  a31 := fun w => by kernel_rfl
  z31 := fun w => by kernel_rfl
  v31 := fun w => by kernel_rfl
  t46 := by kernel_rfl
  a46 := fun w => by kernel_rfl
  z46 := fun w => by kernel_rfl
  v46 := fun w => by kernel_rfl
  t51 := by kernel_rfl
  a51 := fun w => by kernel_rfl
  z51 := fun w => by kernel_rfl
  v51 := fun w => by kernel_rfl
  t105 := by kernel_rfl
  a105 := fun w => by kernel_rfl
  z105 := fun w => by kernel_rfl
  v105 := fun w => by kernel_rfl
  t119 := by kernel_rfl
  a119 := fun w => by kernel_rfl
  z119 := fun w => by kernel_rfl
  t138 := by kernel_rfl
  a138 := fun w => by kernel_rfl
  z138 := fun w => by kernel_rfl
  v138 := fun w => by kernel_rfl
  t139 := by kernel_rfl
  a139 := fun w => by kernel_rfl
  z139 := fun w => by kernel_rfl
  v139 := fun w => by kernel_rfl
  t146 := by kernel_rfl
  a146 := fun w => by kernel_rfl
  z146 := fun w => by kernel_rfl
  v146 := fun w => by kernel_rfl
  g1 := by kernel_rfl
  g3 := by kernel_rfl
  g4 := by kernel_rfl
theorem slib_Lays_n149 : Go.Proofs.Lays.n149 Tryz.prog slib where
  mixed := by kernel_rfl
  f149 := by kernel_rfl
  f222 := by kernel_rfl
  t3 := by kernel_rfl
  a3 := fun w => by kernel_rfl
  z3 := fun w => by kernel_rfl
  v3 := fun w => by kernel_rfl
  t4 := by kernel_rfl
  a4 := fun w => by kernel_rfl
  z4 := fun w => by kernel_rfl
  v4 := fun w => by kernel_rfl
  t5 := by kernel_rfl
  a5 := fun w => by kernel_rfl
  z5 := fun w => by kernel_rfl
  v5 := fun w => by kernel_rfl
  t9 := by kernel_rfl
  a9 := fun w => by kernel_rfl
  z9 := fun w => by kernel_rfl
  v9 := fun w => by kernel_rfl
theorem slib_Lays_n104 : Go.Proofs.Lays.n104 Tryz.prog slib where
  mixed := by kernel_rfl
  f104 := by kernel_rfl
  f207 := by kernel_rfl
  f211 := by kernel_rfl
  t3 := by kernel_rfl
  a3 := fun w => by kernel_rfl
  z3 := fun w => by kernel_rfl
  v3 := fun w => by kernel_rfl
  t4 := by kernel_rfl
  a4 := fun w => by kernel_rfl
  z4 := fun w => by kernel_rfl
  v4 := fun w => by kernel_rfl
  t9 := by kernel_rfl
  a9 := fun w => by kernel_rfl
  z9 := fun w => by kernel_rfl
  v9 := fun w => by kernel_rfl
  t24 := by kernel_rfl
  a24 := fun w => by kernel_rfl
  z24 := fun w => by kernel_rfl
  v24 := fun w => by kernel_rfl
theorem slib_Lays_n102 : Go.Proofs.Lays.n102 Tryz.prog slib where
  mixed := by kernel_rfl
  f102 := by kernel_rfl
  f207 := by kernel_rfl
  f209 := by kernel_rfl
  t3 := by kernel_rfl
  a3 := fun w => by kernel_rfl
  z3 := fun w => by kernel_rfl
  v3 := fun w => by kernel_rfl
  t4 := by kernel_rfl
  a4 := fun w => by kernel_rfl
  z4 := fun w => by kernel_rfl
  v4 := fun w => by kernel_rfl
  t9 := by kernel_rfl
  a9 := fun w => by kernel_rfl
  z9 := fun w => by kernel_rfl
  v9 := fun w => by kernel_rfl
theorem slib_Lays_n137 : Go.Proofs.Lays.n137 Tryz.prog slib where
  mixed := by kernel_rfl
  f137 := by kernel_rfl
  f217 := by kernel_rfl
  f266 := by kernel_rfl
  t3 := by kernel_rfl
  a3 := fun w => by kernel_rfl
  z3 := fun w => by kernel_rfl
  v3 := fun w => by kernel_rfl
  t5 := by kernel_rfl
  a5 := fun w => by kernel_rfl
  z5 := fun w => by kernel_rfl
  v5 := fun w => by kernel_rfl
  t9 := by kernel_rfl
  a9 := fun w => by kernel_rfl
  z9 := fun w => by kernel_rfl
  v9 := fun w => by kernel_rfl
end Go.Proofs.YtnppmcgmmdcpiaaGreatDoor
namespace Go.Proofs.YtnppmcgmmdcpiaaGreatDoor
open Go.Eng
set_option maxRecDepth 20000
/-! ### numbers as they are written -/
theorem toList_bs (l : List UInt8) : ByteArray.toList (bs l) = l := by rw [ByteArray.toList_eq, bs_data]
theorem bs_beq (l m : List UInt8) : (ByteArray.toList (bs l) == ByteArray.toList (bs m)) = decide (l = m) := by
  rw [toList_bs, toList_bs]
  by_cases h : l = m
  · subst h; simp
  · rw [decide_eq_false h]; simpa using h
/-- a number from 0 on, as it is written -/
def isNum (l : List UInt8) (v : Nat) : Prop := v ≤ 9223372036854775807 ∧ l = Lib.decDigits v
theorem dec_byte (u : Nat) : ∀ c ∈ Lib.decDigits u, 48 ≤ c.toNat ∧ c.toNat ≤ 57 := by
  induction u using Nat.strongRecOn with
  | _ u ih =>
    intro c hc
    rw [Lib.decDigits] at hc
    have one : ∀ d, d < 10 → 48 ≤ (UInt8.ofNat (48 + d)).toNat ∧ (UInt8.ofNat (48 + d)).toNat ≤ 57 := by
      intro d hd
      rw [UInt8.toNat_ofNat']
      omega
    split at hc
    · simp only [List.mem_singleton] at hc
      subst hc
      exact one u (by assumption)
    · simp only [List.mem_append, List.mem_singleton] at hc
      rcases hc with hc | rfl
      · exact ih (u / 10) (by omega) c hc
      · exact one (u % 10) (by omega)
theorem dec_ne (u : Nat) : Lib.decDigits u ≠ [] := by
  rw [Lib.decDigits]
  split <;> simp
theorem parse_snoc (c : UInt8) : ∀ (l : List UInt8) (acc : Nat), Lib.parseUint10 acc (l ++ [c]) = (match Lib.parseUint10 acc l with | .ok u => Lib.parseUint10 u [c] | e => e)
  | [], acc => rfl
  | d :: l, acc => by
    have ih := parse_snoc c l
    simp only [List.cons_append, Lib.parseUint10]
    split
    · split
      · rfl
      · split
        · rfl
        · exact ih _
    · rfl
theorem parse_dec (u : Nat) (hu : u ≤ 9223372036854775807) : Lib.parseUint10 0 (Lib.decDigits u) = .ok u := by
  induction u using Nat.strongRecOn with
  | _ u ih =>
    have one : ∀ d, d < 10 → (UInt8.ofNat (48 + d)).toNat = 48 + d := by
      intro d hd
      rw [UInt8.toNat_ofNat']
      omega
    rw [Lib.decDigits]
    split
    · rename_i h
      simp only [Lib.parseUint10, one u h]
      rw [if_pos (by omega), if_neg (by omega), if_neg (by omega)]
      congr 1; omega
    · rw [parse_snoc, ih (u / 10) (by omega) (by omega)]
      simp only [Lib.parseUint10, one (u % 10) (by omega)]
      rw [if_pos (by omega), if_neg (by omega), if_neg (by omega)]
      congr 1; omega
theorem isNum_inj {l : List UInt8} {u v : Nat} (h1 : isNum l u) (h2 : isNum l v) : u = v := by
  have a := parse_dec u h1.1
  have b := parse_dec v h2.1
  rw [← h1.2] at a
  rw [← h2.2, a] at b
  exact Lib.NumEnd.ok.inj b
theorem atoi_dec {l : List UInt8} {v : Nat} (h : isNum l v) : Lib.atoiAll l = .ok (v : Int) := by
  obtain ⟨hv, rfl⟩ := h
  have hp := parse_dec v hv
  have hb := dec_byte v
  have hn := dec_ne v
  generalize Lib.decDigits v = l at hp hb hn
  match l, hn, hp, hb with
  | c :: r, _, hp, hb =>
    have hc := hb c (by simp)
    rw [Lib.atoiAll_plain c r (by omega) (by omega), Lib.parseMag, if_neg (by simp), hp]
    simp only [Lib.signless]
    rw [if_neg (by omega)]

/-- what is laid of the library's errors -/
def HasNum (ro : Addr → Option Value) : Prop := (∃ te pe, ro ⟨2, 0, none⟩ = some (.iface te pe)) ∧ ∃ te pe, ro ⟨3, 0, none⟩ = some (.iface te pe)
theorem HasNum.up {ro ro' : Addr → Option Value} (h : HasNum ro) (m : ∀ a v, ro a = some v → ro' a = some v) : HasNum ro' := by
  obtain ⟨⟨a, b, h1⟩, ⟨c, d, h2⟩⟩ := h
  exact ⟨⟨a, b, m _ _ h1⟩, ⟨c, d, m _ _ h2⟩⟩
theorem atoi_c {l : List UInt8} (hl : l.length ≤ 1000000) {own : List Ent} {ro : Addr → Option Value} {post : Value → H → Prop} (hN : HasNum ro)
    (h0 : ∀ v, Lib.atoiAll l = .ok v → post (.tuple #[.int .i64 v, .nilIface]) ⟨own, ro⟩) (h1 : ∀ x te pe, (∀ v, Lib.atoiAll l ≠ .ok v) → post (.tuple #[.int .i64 x, .iface te pe]) ⟨own, ro⟩) :
    SemCall Tryz.prog 84 (List.toArray [.string (bs l)]) ⟨own, ro⟩ post := by
  intro w hw
  obtain ⟨⟨t1, p1, e1⟩, ⟨t2, p2, e2⟩⟩ := hN
  have hsz : (bs l).size ≤ 281474976710656 := by rw [bs_size]; omega
  rcases hA : Lib.atoiAll l with v | _ | _
  · show _
    refine (Any.strconv_Atoi_ok slib_LaysC_n172 (bs l) (by rw [bs_size]; omega) v (by rw [bs_data]; exact hA) w).mono ?_
    rintro e w' ⟨rfl, hw'⟩
    have hb : Go.RowKit.Below w.heap.size w w' := by
      rcases hw' with rfl | ⟨t, rfl⟩
      · exact Go.RowKit.Below.refl _ _
      · exact Lib.bytesWorld_below w _ t
    have := holds_below hw hb
    exact ⟨_, _, rfl, this.1, this.2, h0 v hA⟩
  · show _
    refine (Any.strconv_Atoi_syntax slib_LaysC_n172 (bs l) hsz (by rw [bs_data]; exact hA) _ w (hw.ro _ _ e1) (.inr ⟨_, _, rfl⟩)).mono ?_
    rintro e w' ⟨n, rfl, _, _, hb⟩
    have := holds_below hw hb
    exact ⟨_, _, rfl, this.1, this.2, h1 _ _ _ (fun v hv => by rw [hA] at hv; cases hv)⟩
  · show _
    refine (Any.strconv_Atoi_range slib_LaysC_n172 (bs l) hsz (by rw [bs_data]; exact hA) _ w (hw.ro _ _ e2) (.inr ⟨_, _, rfl⟩)).mono ?_
    rintro e w' ⟨n, rfl, _, _, hb⟩
    have := holds_below hw hb
    exact ⟨_, _, rfl, this.1, this.2, h1 _ _ _ (fun v hv => by rw [hA] at hv; cases hv)⟩
open Classical in
/-- a book's numbers -/
theorem number_c {l : List UInt8} (hl : l.length ≤ 1000000) {own : List Ent} {ro : Addr → Option Value} {post : Value → H → Prop} {T : Nat} (hN : HasNum ro) (hT : shE 4 T 20 ∈ own) (hTab : HasTab ro)
    (h1 : ∀ v, isNum l v → post (.tuple (List.toArray [.int .i64 (v : Int), .bool true])) ⟨own, ro⟩) (h0 : (¬ ∃ v, isNum l v) → ∀ x, post (.tuple (List.toArray [.int .i64 x, .bool false])) ⟨own, ro⟩) :
    SemCall Tryz.prog 54 (List.toArray [.string (bs l)]) ⟨own, ro⟩ post := by
  refine f54_call _ _ post (atoi_c hl hN (fun v hv => ⟨v, none, rfl, ?_⟩) (fun x te pe hno => ⟨x, some (te, pe), rfl, ?_⟩))
  · have hbd := Lib.atoiAll_bounds hv
    refine ⟨fun x c h => x = v ∧ c = decide (∃ u, isNum l u) ∧ h = ⟨own, ro⟩, VIf_nil (VIf_dec (fun hp => ?_) (fun hp => gi ⟨rfl, ?_, rfl⟩)), ?_⟩
    · refine itoa_c (by omega) (by omega) hT hTab ⟨_, rfl, gi ⟨rfl, ?_, rfl⟩⟩
      rw [show (ByteArray.mk (Lib.itoa v).toArray) = bs (Lib.decDigits v.toNat) by rw [itoa_nn hp]; rfl, bs_beq]
      refine decide_eq_decide.2 ⟨fun h => ⟨v.toNat, by omega, h.symm⟩, fun ⟨u, hu⟩ => ?_⟩
      have := atoi_dec hu
      rw [hv] at this
      have hvu := Lib.NumEnd.ok.inj this
      subst hvu
      rw [Int.toNat_natCast]
      exact hu.2.symm
    · refine (decide_eq_false ?_).symm
      rintro ⟨u, hu⟩
      have := atoi_dec hu
      rw [hv] at this
      have := Lib.NumEnd.ok.inj this
      omega
    · rintro _ x c _ ⟨rfl, rfl, rfl⟩
      refine ret ?_
      by_cases hu : ∃ u, isNum l u
      · rw [decide_eq_true hu]
        obtain ⟨u, hu⟩ := hu
        have := atoi_dec hu
        rw [hv] at this
        rw [Lib.NumEnd.ok.inj this]
        exact h1 u hu
      · rw [decide_eq_false hu]
        exact h0 hu _
  · refine ⟨fun y c h => y = x ∧ c = false ∧ h = ⟨own, ro⟩, ⟨rfl, VIf_b (fun h => by cases h) (fun _ => gi ⟨rfl, rfl, rfl⟩)⟩, ?_⟩
    rintro _ y c _ ⟨rfl, rfl, rfl⟩
    exact ret (h0 (fun ⟨u, hu⟩ => hno _ (atoi_dec hu)) _)
end Go.Proofs.YtnppmcgmmdcpiaaGreatDoor
namespace Go.Proofs.YtnppmcgmmdcpiaaGreatDoor
open Go.Eng
set_option maxRecDepth 20000
/-! ### the document's Number -/
def vF (acc : Nat) (l : List UInt8) : Nat := l.foldl (fun n c => n * 10 + (c.toNat - 48)) acc
theorem vF_parse : ∀ (l : List UInt8) (acc u : Nat), Lib.parseUint10 acc l = .ok u → vF acc l = u
  | [], acc, u, h => by
    simp only [Lib.parseUint10] at h
    injection h
  | c :: l, acc, u, h => by
    simp only [Lib.parseUint10] at h
    split at h
    · split at h
      · cases h
      · split at h
        · cases h
        · exact vF_parse l _ u h
    · cases h
theorem vF_lt : ∀ (l : List UInt8) (acc : Nat), (∀ c ∈ l, c.toNat ≤ 57) → vF acc l < (acc + 1) * 10 ^ l.length
  | [], acc, _ => by simp [vF]
  | c :: l, acc, h => by
    have h1 := vF_lt l (acc * 10 + (c.toNat - 48)) (fun d hd => h d (by simp [hd]))
    have h2 := h c (by simp)
    have e : vF acc (c :: l) = vF (acc * 10 + (c.toNat - 48)) l := rfl
    rw [e, List.length_cons, Nat.pow_succ]
    refine Nat.lt_of_lt_of_le h1 ?_
    rw [Nat.mul_comm (10 ^ l.length) 10, ← Nat.mul_assoc]
    exact Nat.mul_le_mul_right _ (by omega)
theorem vF_snoc (l : List UInt8) (c : UInt8) (acc : Nat) : vF acc (l ++ [c]) = vF acc l * 10 + (c.toNat - 48) := by simp [vF, List.foldl_append]
open Go.RowKit in
theorem wrap_num {x c : Int} : wrap64 (wrap64 (wrap64 (wrap64 x * 10) + c) - 48) = wrap64 (x * 10 + (c - 48)) := by unfold wrap64; omega
theorem dec_len19 (u : Nat) (h : u < 10 ^ 19) : (Lib.decDigits u).length ≤ 19 := by
  rw [Lib.decDigits_length]
  have : ∀ (k v : Nat), v < 10 ^ (k + 1) → Lib.nDigits v ≤ k + 1 := by
    intro k
    induction k with
    | zero => intro v hv; rw [Lib.nDigits_small (by simpa using hv)]; exact Nat.le_refl _
    | succ k ih =>
      intro v hv
      by_cases hs : v < 10
      · rw [Lib.nDigits_small hs]; omega
      · rw [Lib.nDigits_big hs]
        have := ih (v / 10) (by rw [Nat.pow_succ] at hv; omega)
        omega
  exact this 18 u h
open Go.RowKit in
theorem wrap_nn {x : Nat} (h : x < 18446744073709551616) : (0 ≤ wrap64 (x : Int) → wrap64 (x : Int) = x ∧ x ≤ 9223372036854775807) ∧ (x ≤ 9223372036854775807 → wrap64 (x : Int) = x) := by
  unfold wrap64
  constructor
  · intro h; omega
  · intro h; omega
theorem bs_get (l : List UInt8) (k : Nat) (h : k < l.length) (h' : k < (bs l).size) : (bs l)[k]'h' = l[k] := rfl
open Go.RowKit in
def IsW (x : Int) (v : Nat) : Prop := x = wrap64 (v : Int)
def BsIs (s : ByteArray) (l : List UInt8) : Prop := s = bs l
open Go.RowKit in
set_option maxRecDepth 100000 in
set_option maxHeartbeats 1000000 in
theorem dnumber_c {l : List UInt8} {h : H} {post : Value → H → Prop} (h1 : ∀ v, isNum l v → post (.tuple #[.int .i64 (v : Int), .bool true]) h) (h0 : (¬ ∃ v, isNum l v) → ∀ x, post (.tuple #[.int .i64 x, .bool false]) h) :
    SemCall Tryz.prog 60 (List.toArray [.string (bs l)]) h post := by
  intro w hw
  have fin : ∀ v : Value, post v h → ∃ v' h', Ending.returned v = .returned v' ∧ Holds w h' ∧ Fr w w h h' ∧ post v' h' := fun v hp => ⟨v, h, rfl, hw, Fr.refl _ _, hp⟩
  have hsz : (bs l).size = l.length := bs_size l
  by_cases hlen : l.length = 0 ∨ 19 < l.length
  · have hno : ¬ ∃ v, isNum l v := by
      rintro ⟨v, hv, rfl⟩
      rcases hlen with h | h
      · exact dec_ne v (List.eq_nil_of_length_eq_zero h)
      · have := dec_len19 v (by omega)
        omega
    have f0 := fin _ (h0 hno 0)
    clear h0 h1 fin
    generalize bs l = s at hsz
    go_enter Tryz.func60, Tryz.ntmps60
    go_wp2
    all_goals first
      | (go_ret2; exact f0)
      | (exfalso; simp_all; omega)
  · have hn0 : ((l.length : Int) == 0) = false := by rw [beq_eq_false_iff_ne]; omega
    have hn19 : decide (19 < (l.length : Int)) = false := decide_eq_false (by omega)
    have hget := bs_get l
    have hl19 : l.length ≤ 19 := by omega
    clear hlen
    suffices key : ∀ s : ByteArray, BsIs s l → s.size = l.length → (∀ (k : Nat) (h : k < l.length) (h' : k < s.size), s[k]'h' = l[k]) → Calls Tryz.prog 60 (List.toArray [.string s]) w fun e w' => ∃ v h', e = Ending.returned v ∧ Holds w' h' ∧ Fr w w' h h' ∧ post v h' from key _ rfl hsz hget
    clear hsz hget
    intro s hs hsz hget
    go_enter Tryz.func60, Tryz.ntmps60
    go_wp2
    go_loop [4, 5] (fun n i => ∃ k : Nat, k ≤ l.length ∧ i = .int .i64 k ∧ (∃ x, IsW x (vF 0 (l.take k)) ∧ n = .int .i64 x) ∧ ∀ c ∈ l.take k, 48 ≤ c.toNat ∧ c.toNat ≤ 57) (fun _ i => l.length - (intOf i).toNat)
    case atStart => exact ⟨0, Nat.zero_le _, rfl, ⟨0, by simp [IsW, vF, wrap64], rfl⟩, by simp⟩
    case round =>
      obtain ⟨k, hk, rfl, ⟨x, hx, rfl⟩, hdig⟩ := hrel
      by_cases hkn : k < l.length
      · have hks : k < s.size := by omega
        have hg : s[k]'hks = l[k] := hget k hkn hks
        obtain ⟨c, hc⟩ : ∃ c : Nat, c = l[k].toNat := ⟨_, rfl⟩
        have hgc : (s[k]'hks).toNat = c := by rw [hg, hc]
        clear hg hget
        by_cases c1 : c < 48
        · have d1 : decide (((s[k]'hks).toNat : Int) < 48) = true := by rw [hgc]; exact decide_eq_true (by omega)
          have f0 := (h0 (by
            rintro ⟨v, hv, rfl⟩
            have := dec_byte v _ (List.getElem_mem hkn)
            omega) 0)
          clear h0 h1 fin hgc
          go_wp2
          go_ret2
          exact ⟨_, rfl, h, hw, Fr.refl _ _, f0⟩
        · have d1 : decide (((s[k]'hks).toNat : Int) < 48) = false := by rw [hgc]; exact decide_eq_false (by omega)
          by_cases c2 : 57 < c
          · have d2 : decide (57 < ((s[k]'hks).toNat : Int)) = true := by rw [hgc]; exact decide_eq_true (by omega)
            have f0 := (h0 (by
              rintro ⟨v, hv, rfl⟩
              have := dec_byte v _ (List.getElem_mem hkn)
              omega) 0)
            clear h0 h1 fin hgc
            go_wp2
            go_ret2
            exact ⟨_, rfl, h, hw, Fr.refl _ _, f0⟩
          · have d2 : decide (57 < ((s[k]'hks).toNat : Int)) = false := by rw [hgc]; exact decide_eq_false (by omega)
            have hnx : IsW (wrap64 (wrap64 (wrap64 (x * 10) + c) - 48)) (vF 0 (l.take (k + 1))) := by
              rw [List.take_succ_eq_append_getElem hkn, vF_snoc, ← hc]
              unfold IsW at hx ⊢
              rw [hx]
              have := @wrap_num ((vF 0 (l.take k) : Nat) : Int) c
              rw [this]
              congr 1
              omega
            have hdig' : ∀ d ∈ l.take (k + 1), 48 ≤ d.toNat ∧ d.toNat ≤ 57 := by
              intro d hd
              rw [List.take_succ_eq_append_getElem hkn] at hd
              simp only [List.mem_append, List.mem_singleton] at hd
              rcases hd with hd | rfl
              · exact hdig d hd
              · omega
            clear h0 h1 fin
            go_wp2
            go_round
            case rel =>
              refine ⟨k + 1, by omega, by simp, ⟨_, hnx, ?_⟩, hdig'⟩
              rw [hc]
            case measure => simp [intOf]; omega
      · have hkl : k = l.length := by omega
        subst hkl
        rw [List.take_length] at hx hdig
        clear hk hkn hget
        have hvlt := vF_lt l 0 (fun c hc => (hdig c hc).2)
        have hp19 : 10 ^ l.length ≤ 10 ^ 19 := Nat.pow_le_pow_right (by decide) hl19
        have hv64 : vF 0 l < 18446744073709551616 := by
          have : (10 : Nat) ^ 19 = 10000000000000000000 := by decide
          omega
        have hwn := wrap_nn hv64
        by_cases hx0 : 0 ≤ x
        · have hxv : x = (vF 0 l : Nat) ∧ vF 0 l ≤ 9223372036854775807 := by
            have h2 := hwn.1 (by rw [← show x = wrap64 _ from hx]; exact hx0)
            exact ⟨by rw [show x = wrap64 _ from hx]; exact h2.1, h2.2⟩
          have S := digits_n (vF 0 l) hxv.2 (h := h) (post := fun v h' => v = .string (bs (Lib.decDigits (vF 0 l))) ∧ h' = h) ⟨rfl, rfl⟩ _ hw
          have hfin : ∀ b, b = decide (l = Lib.decDigits (vF 0 l)) → post (.tuple #[.int .i64 x, .bool b]) h := by
            rintro b rfl
            by_cases hb : l = Lib.decDigits (vF 0 l)
            · rw [decide_eq_true hb, hxv.1]
              exact h1 _ ⟨hxv.2, hb⟩
            · rw [decide_eq_false hb]
              refine h0 ?_ _
              rintro ⟨v, hv, rfl⟩
              have := vF_parse _ _ _ (parse_dec v hv)
              exact hb (by rw [this])
          have hd : decide (0 ≤ x) = true := decide_eq_true hx0
          rw [← hxv.1] at S
          clear h0 h1 fin hwn hv64 hvlt hp19 hdig hn0 hn19 hxv
          have hse : s = bs l := hs
          generalize hdd : Lib.decDigits (vF 0 l) = dd at S hfin
          clear hx hdd hs
          go_wp2_with (go_at_call 79; refine S.mono ?_; rintro e w2 ⟨v, h', rfl, hh2, hf2, rfl, rfl⟩; refine Hid.out ?_)
          · refine Lib.hid ?_
            go_wp2
            go_ret2
            refine ⟨_, _, rfl, hh2, hf2, hfin _ ?_⟩
            rw [bs_beq]
            exact decide_eq_decide.2 eq_comm
        · have hd : decide (0 ≤ x) = false := decide_eq_false hx0
          have f0 : post (.tuple #[.int .i64 x, .bool false]) h := h0 (by
            rintro ⟨v, hv, rfl⟩
            have := vF_parse _ _ _ (parse_dec v hv)
            rw [this] at hwn hx
            have h2 := hwn.2 hv
            rw [show x = wrap64 _ from hx, h2] at hx0
            omega) x
          clear h0 h1 fin hwn hv64 hvlt hp19 hdig hn0 hn19
          go_wp2
          all_goals first
            | (go_ret2; exact ⟨_, rfl, h, hw, Fr.refl _ _, f0⟩)
            | (exfalso; omega)
end Go.Proofs.YtnppmcgmmdcpiaaGreatDoor
namespace Go.Proofs.YtnppmcgmmdcpiaaGreatDoor
open Go.Eng
set_option maxRecDepth 20000
/-! ### strings.Lines: a range over its iterator -/
/-- the next line, and what is left -/
def lineOf (t : List UInt8) : List UInt8 × List UInt8 := if Lib.indexByte t 10 < 0 then (t, []) else (t.take ((Lib.indexByte t 10).toNat + 1), t.drop ((Lib.indexByte t 10).toNat + 1))
def boxLen (Bs : Nat) (W : World) : Nat := match W.cell? ⟨Bs, 0, none⟩ with | some (.string s) => s.size | _ => 0
theorem boxLen_eq {Bs : Nat} {W : World} {t : List UInt8} (h : W.cell? ⟨Bs, 0, none⟩ = some (.string (bs t))) : boxLen Bs W = t.length := by unfold boxLen; rw [h]; exact bs_size t
theorem bs_take (t : List UInt8) (k : Nat) (_h : k ≤ t.length) : (bs t).extract 0 k = bs (t.take k) := by
  apply ByteArray.ext
  simp [bs, ByteArray.data_extract]
theorem bs_drop (t : List UInt8) (k : Nat) : (bs t).extract k t.length = bs (t.drop k) := by
  apply ByteArray.ext
  simp [bs, ByteArray.data_extract]
  exact List.take_of_length_le (by simp)
theorem setCell_drew' (w : World) (a : Addr) (v : Value) : World.setCell { w with drawn := w.drawn + 1 } a v = (w.setCell a v).drew := by
  unfold World.setCell
  simp only []
  split <;> rfl
open Go.RowKit in
set_option maxRecDepth 100000 in
set_option maxHeartbeats 1000000 in
theorem lines1_in (l Bs : Nat) (t0 : List UInt8) (J : List UInt8 → World → Prop) (Jx : World → Prop)
    (hlen : ∀ t W, J t W → t.length ≤ 1000000)
    (hbox : ∀ t W, J t W → W.cell? ⟨Bs, 0, none⟩ = some (.string (bs t)) ∧ W.frozen? ⟨Bs, 0, none⟩ = false)
    (hdrew : ∀ t W, J t W → J t { W with drawn := W.drawn + 1 })
    (hY : ∀ t W, t ≠ [] → J t W → YieldAt Fence.wide 0 Tryz.prog l #[.string (bs (lineOf t).1)] (W.setCell ⟨Bs, 0, none⟩ (.string (bs (lineOf t).2))) fun e W' =>
      (e = .returned (.bool true) ∧ J (lineOf t).2 W') ∨ (e = .returned (.bool false) ∧ Jx W'))
    (W : World) (h0 : J t0 W) :
    CallsIn Fence.wide 0 Tryz.prog 50 #[.func (.yield l) #[] #[], .pointer (some ⟨Bs, 0, none⟩)] W fun e W' => (∃ v, e = .returned v) ∧ (J [] W' ∨ Jx W') := by
  have hro : Fence.wide.round = none := rfl
  refine callsIn_of_wp Tryz.func50 rfl trivial ?_ hro
  simp only [Tryz.ntmps50, List.size_toArray, List.length_cons, List.length_nil, Nat.reduceAdd, Nat.reduceSub, Array.replicate_succ, Array.replicate_zero, List.push_toArray, List.append_toArray, List.nil_append, List.cons_append]
  gi_wp2
  gi_loopw [3] (fun _ wr => ∃ t : List UInt8, J t wr) (fun _ wr => boxLen Bs wr)
  case atStart => exact ⟨t0, h0⟩
  case round =>
    obtain ⟨t, hJ⟩ := hrel
    obtain ⟨hb, hf⟩ := hbox t wr hJ
    have hl := hlen t wr hJ
    by_cases ht : t = []
    · subst ht
      gi_wp2
      go_end0
      exact ⟨⟨_, rfl⟩, .inl hJ⟩
    · have hpos : 0 < t.length := List.length_pos_iff.2 ht
      have hsz : (bs t).size = t.length := bs_size t
      have hd : decide (0 < (t.length : Int)) = true := decide_eq_true (by omega)
      have S : ∀ w', CallsIn Fence.wide (0 - 1) Tryz.prog 51 #[.string (bs t), .int .u8 10] w' fun e w'' => e = .returned (.int .i64 (Lib.indexByte t 10)) ∧ w'' = w' := fun w' => callsIn_wide.2 (by
        have := Any.strings_IndexByte slib_Lays_n137 (bs t) 10 w'
        rw [bs_data] at this
        exact this)
      have hY1 := hY t wr ht hJ
      have hline : lineOf t = if Lib.indexByte t 10 < 0 then (t, []) else (t.take ((Lib.indexByte t 10).toNat + 1), t.drop ((Lib.indexByte t 10).toNat + 1)) := rfl
      have hge := Lib.indexByte_ge t 10
      have hlt : Lib.indexByte t 10 < t.length := by
        by_cases h : Lib.indexByte t 10 < 0
        · omega
        · obtain ⟨o, ho⟩ : ∃ o : Nat, Lib.indexByte t 10 = o := ⟨(Lib.indexByte t 10).toNat, by omega⟩
          have := (Lib.indexByte_some ho).1
          have := (List.getElem?_eq_some_iff.1 this).1
          omega
      generalize Lib.indexByte t 10 = m at S hline hge hlt
      have hrd : (lineOf t).2.length < t.length := by
        rw [hline]
        by_cases h : m < 0
        · rw [if_pos h]; exact hpos
        · rw [if_neg h]; simp only [List.length_drop]; omega
      have hmu : ∀ W', J (lineOf t).2 W' → boxLen Bs W' < boxLen Bs wr := fun W' h => by
        rw [boxLen_eq (hbox _ _ h).1, boxLen_eq hb]; exact hrd
      by_cases hi : m < 0
      · rw [if_pos hi] at hline
        rw [hline] at hY1 hmu
        have hdm : decide (0 ≤ m) = false := decide_eq_false (by omega)
        obtain ⟨fn, tmps, assign, body, hy, hR⟩ := hY1
        rw [show bs [] = (⟨#[]⟩ : ByteArray) from rfl] at hy hR
        gi_wp2_with (refine ⟨trivial, rfl, ?_⟩; gi_at_call 51; refine (S _).mono ?_; rintro e w' ⟨rfl, rfl⟩)
        refine ⟨rfl, hR.mono ?_⟩
        rintro e W3 (⟨rfl, hJ3⟩ | ⟨rfl, hJx3⟩)
        · gi_wp2
          go_roundw
          case rel => exact ⟨_, hJ3⟩
          case measure => exact hmu _ hJ3
        · gi_wp2
          refine bodyPost_ret (results_none rfl _ _ _) rfl ?_
          exact ⟨⟨_, rfl⟩, .inr hJx3⟩
      · rw [if_neg hi] at hline
        rw [hline] at hY1
        obtain ⟨i, rfl⟩ : ∃ i : Nat, m = i := ⟨m.toNat, by omega⟩
        have hit : i < t.length := by omega
        rw [Int.toNat_natCast] at hline hY1
        have hdm : decide (0 ≤ (i : Int)) = true := decide_eq_true (by omega)
        rw [hline] at hmu
        obtain ⟨fn, tmps, assign, body, hy, hR⟩ := hY t { wr with drawn := wr.drawn + 1 } ht (hdrew t wr hJ)
        gi_wp2_with (refine ⟨trivial, rfl, ?_⟩; gi_at_call 51; refine (S _).mono ?_; rintro e w' ⟨rfl, rfl⟩)
        have w1 : IntKind.i64.wrap ((i : Int) + 1) = (i : Int) + 1 := IntWalk.i64_in _ (by omega)
        have w2 : 0 ≤ (i : Int) + 1 := by omega
        have w3 : ((i : Int) + 1).toNat = i + 1 := by omega
        have w4 : i + 1 ≤ t.length := by omega
        gi_region
        clear w1 w2 w3 w4
        rw [bs_take t (i + 1) (by omega), bs_drop t (i + 1)]
        rw [hline, setCell_drew'] at hy hR
        gi_wp2
        refine ⟨rfl, hR.mono ?_⟩
        rintro e W3 (⟨rfl, hJ3⟩ | ⟨rfl, hJx3⟩)
        · gi_wp2
          go_roundw
          case rel => exact ⟨_, hJ3⟩
          case measure => exact hmu _ hJ3
        · gi_wp2
          refine bodyPost_ret (results_none rfl _ _ _) rfl ?_
          exact ⟨⟨_, rfl⟩, .inr hJx3⟩
end Go.Proofs.YtnppmcgmmdcpiaaGreatDoor
namespace Go.Proofs.YtnppmcgmmdcpiaaGreatDoor
open Go.Eng
set_option maxRecDepth 20000
/-! ### the statement: a range over strings.Lines -/
theorem get_put {W : World} {r k : Nat} {o' : Obj} (h : k ≠ r) : (W.putObj r o').heap[k]? = W.heap[k]? := World.putObj_heap_other h
def notCells (o : Obj) : Prop := ∀ a t z, o ≠ .cells a t z
theorem shape_put {W : World} {r k : Nat} {o o' : Obj} (ho : W.heap[r]? = some o) (hc : notCells o) (hc' : notCells o') : (W.putObj r o').shape? k = W.shape? k := by
  by_cases h : k = r
  · subst h
    unfold World.shape?
    rw [World.putObj_heap_same (Array.getElem?_eq_some_iff.1 ho).1, ho]
    cases o <;> cases o' <;> first | rfl | exact absurd rfl (hc _ _ _) | exact absurd rfl (hc' _ _ _)
  · unfold World.shape?
    rw [get_put h]
theorem holds_put {W : World} {h : H} {r : Nat} {o o' : Obj} (hw : Holds W h) (hn : ∀ e ∈ h.own, e.id ≠ some r) (ho : W.heap[r]? = some o) (hc : notCells o) (hc' : notCells o') : Holds (W.putObj r o') h := by
  refine ⟨hw.nd, fun e he => Ent.ok_of_block (fun k hk => get_put (fun e' => hn e he (e' ▸ hk))) (fun k _ => shape_put ho hc hc') (hw.ok e he), fun a v hv => ?_, hw.ap⟩
  have h1 := hw.ro a v hv
  have : a.block ≠ r := by
    intro e
    subst e
    unfold World.cell? at h1
    rw [ho] at h1
    cases o <;> first | cases h1 | exact hc _ _ _ rfl
  exact (World.cell?_of_block (get_put this)).trans h1
theorem fr_put {W w : World} {h h' : H} {r : Nat} {o o' : Obj} (hf : Fr w W h h') (hr : w.heap.size ≤ r) (ho : W.heap[r]? = some o) (hc : notCells o) (hc' : notCells o') : Fr w (W.putObj r o') h h' :=
  ⟨hf.os, hf.tape, hf.output, by rw [World.putObj_size]; exact hf.size, fun k hk => (shape_put ho hc hc').trans (hf.shape k hk), fun k hk hn => (get_put (by omega)).trans (hf.keep k hk hn), hf.ids, hf.ro, hf.roNew⟩
theorem nc_loop {l : Loop} : notCells (.loop l) := fun _ _ _ h => nomatch h
theorem nc_def {l : Option (List Deferred)} : notCells (.deferred l) := fun _ _ _ h => nomatch h
def bxE (r : Nat) (v : Value) : Ent := ⟨some r, [v], 1⟩
theorem bx_cell {W : World} {A C : List Ent} {ro : Addr → Option Value} {r : Nat} {v : Value} (hw : Holds W ⟨A ++ bxE r v :: C, ro⟩) : W.cell? ⟨r, 0, none⟩ = some v ∧ W.frozen? ⟨r, 0, none⟩ = false := by
  obtain ⟨arr, T, h1, h2, h3⟩ := (hw.ok (bxE r v) (by simp)).row r rfl
  have h4 : arr.toList[0]? = some v := by
    obtain ⟨tl, htl⟩ := h3
    rw [← htl]; rfl
  refine ⟨?_, ?_⟩
  · simp only [World.cell?, h1]
    simpa using h4
  · simp only [World.frozen?, h1]
    simp
theorem bx_set {W : World} {A C : List Ent} {ro : Addr → Option Value} {r : Nat} {v : Value} (v' : Value) (hw : Holds W ⟨A ++ bxE r v :: C, ro⟩) :
    Holds (W.setCell ⟨r, 0, none⟩ v') ⟨A ++ bxE r v' :: C, ro⟩ ∧ Fr W (W.setCell ⟨r, 0, none⟩ v') ⟨A ++ bxE r v :: C, ro⟩ ⟨A ++ bxE r v' :: C, ro⟩ ∧ ∀ k, k ≠ r → (W.setCell ⟨r, 0, none⟩ v').heap[k]? = W.heap[k]? := by
  obtain ⟨arr, T, h1, h2, h3⟩ := (hw.ok (bxE r v) (by simp)).row r rfl
  have hlt : r < W.heap.size := (Array.getElem?_eq_some_iff.1 h1).1
  have hk : ∀ k, k ≠ r → (W.setCell ⟨r, 0, none⟩ v').heap[k]? = W.heap[k]? := fun k hk => by
    unfold World.setCell
    simp only []
    rw [Array.getElem?_modify, if_neg (fun e => hk e.symm)]
  have hr : (W.setCell ⟨r, 0, none⟩ v').heap[r]? = some (.cells (arr.setIfInBounds 0 v') T (0, 0)) := by
    unfold World.setCell
    simp only []
    rw [Array.getElem?_modify, if_pos rfl, h1]
    rfl
  have hs : ∀ k, k < W.heap.size → (W.setCell ⟨r, 0, none⟩ v').shape? k = W.shape? k := fun k _ => by
    by_cases h : k = r
    · subst h
      unfold World.shape?
      rw [hr, h1]
      simp
    · unfold World.shape?
      rw [hk k h]
  have := swap_holds (w' := W.setCell ⟨r, 0, none⟩ v') (en' := bxE r v') hw rfl rfl rfl (by simp [World.setCell]) hs (fun k _ hn => hk k (fun e => hn (by rw [e]; rfl)))
    ⟨fun k hk' => by
      cases hk'
      refine ⟨_, _, hr, ?_, ?_⟩
      · simp only [Array.size_setIfInBounds]; exact h2
      · have hsz : arr.size = 1 := h2
        have hl : arr.toList.length = 1 := hsz
        match hm : arr.toList, hl with
        | [x], _ =>
          have : arr = #[x] := by rw [← Array.toArray_toList (xs := arr), hm]
          subst this
          exact List.prefix_refl _, fun a b hf => (by cases hf), fun a hf => (by cases hf)⟩
    (fun b hb => .inl hb)
  exact ⟨this.1, this.2, hk⟩

/-- what is left behind a round, by the way in which it is left -/
def roundOut (I : List UInt8 → List Ent → (Addr → Option Value) → Prop) (X : Code → List Ent → (Addr → Option Value) → Prop) (Bs : Nat) (rest : List UInt8) (W : World) (h : H) : Exit → Act → World → Prop
  | .normal, _, W' => ∃ own' ro', I rest own' ro' ∧ Holds W' ⟨bxE Bs (.string (bs rest)) :: own', ro'⟩ ∧ Fr W W' h ⟨bxE Bs (.string (bs rest)) :: own', ro'⟩
  | .ret, _, W' => ∃ own' ro', X .ret own' ro' ∧ Holds W' ⟨bxE Bs (.string (bs rest)) :: own', ro'⟩ ∧ Fr W W' h ⟨bxE Bs (.string (bs rest)) :: own', ro'⟩
  | .exit id, _, W' => ∃ own' ro', X (.exit id) own' ro' ∧ Holds W' ⟨bxE Bs (.string (bs rest)) :: own', ro'⟩ ∧ Fr W W' h ⟨bxE Bs (.string (bs rest)) :: own', ro'⟩
  | _, _, _ => False
structure LK (I : List UInt8 → List Ent → (Addr → Option Value) → Prop) (Bs L D : Nat) (wb : World) (hb : H) (ol : Loop) (t : List UInt8) (W : World) : Prop where
  ex : ∃ own ro, I t own ro ∧ Holds W ⟨bxE Bs (.string (bs t)) :: own, ro⟩ ∧ Fr wb W hb ⟨bxE Bs (.string (bs t)) :: own, ro⟩ ∧ ∀ e ∈ bxE Bs (.string (bs t)) :: own, e.id ≠ some L ∧ e.id ≠ some D
  hl : W.heap[L]? = some (.loop ol)
  hd : W.heap[D]? = some (.deferred (some []))
structure LX (X : Code → List Ent → (Addr → Option Value) → Prop) (Bs L D : Nat) (wb : World) (hb : H) (rec : LoopState → Option Code → Loop) (W : World) : Prop where
  ex : ∃ c rest own ro, X c own ro ∧ Holds W ⟨bxE Bs (.string (bs rest)) :: own, ro⟩ ∧ Fr wb W hb ⟨bxE Bs (.string (bs rest)) :: own, ro⟩ ∧ (∀ e ∈ bxE Bs (.string (bs rest)) :: own, e.id ≠ some L ∧ e.id ≠ some D) ∧ W.heap[L]? = some (.loop (rec .done (some c)))
  hd : W.heap[D]? = some (.deferred (some []))
open Go.RowKit in
set_option maxRecDepth 100000 in
set_option maxHeartbeats 1000000 in
theorem range_lines {g : Operand} {p : Nat} {assign body : Code} {Q : Exit → Act → World → Prop} {a : Act} {w wb : World} {hb : H} {Bs : Nat} {t0 : List UInt8}
    (hg : a.eval g = .func (.func 50) #[] #[.pointer (some ⟨Bs, 0, none⟩)])
    (I : List UInt8 → List Ent → (Addr → Option Value) → Prop) (X : Code → List Ent → (Addr → Option Value) → Prop) (hI : ∀ t own ro, I t own ro → t.length ≤ 1000000)
    {own0 : List Ent} {ro0 : Addr → Option Value} (h0 : I t0 own0 ro0) (hw0 : Holds w ⟨bxE Bs (.string (bs t0)) :: own0, ro0⟩) (hf0 : Fr wb w hb ⟨bxE Bs (.string (bs t0)) :: own0, ro0⟩)
    (a₁ : List UInt8 → Act)
    (hassign : ∀ (l : Nat) (line : List UInt8) (W : World) (K : Act → World → Prop), K (a₁ line) W → assign.wpIn (Fence.wide.inRound l) 0 Tryz.prog (Exit.then K (fun _ _ _ => False)) { tmps := a.tmps.setIfInBounds p (.string (bs line)), defers := [] } W)
    (hbody : ∀ (l : Nat) (t : List UInt8) (own : List Ent) (ro : Addr → Option Value) (W : World), t ≠ [] → I t own ro → Holds W ⟨bxE Bs (.string (bs (lineOf t).2)) :: own, ro⟩ →
      body.wpIn (Fence.wide.inRound l) 0 Tryz.prog (roundOut I X Bs (lineOf t).2 W ⟨bxE Bs (.string (bs (lineOf t).2)) :: own, ro⟩) (a₁ (lineOf t).1) W)
    (hdone : ∀ (own : List Ent) (ro : Addr → Option Value) (W : World) (D : Nat), I [] own ro → Holds W ⟨bxE Bs (.string (bs [])) :: own, ro⟩ → Fr wb W hb ⟨bxE Bs (.string (bs [])) :: own, ro⟩ → W.heap[D]? = some (.deferred (some [])) →
      wb.heap.size ≤ D → (∀ e ∈ bxE Bs (.string (bs [])) :: own, e.id ≠ some D) → Q .normal { a with defers := { target := .collected D, args := #[] } :: a.defers } W)
    (hstop : ∀ (c : Code) (rest : List UInt8) (own : List Ent) (ro : Addr → Option Value) (W : World) (D : Nat), X c own ro → Holds W ⟨bxE Bs (.string (bs rest)) :: own, ro⟩ → Fr wb W hb ⟨bxE Bs (.string (bs rest)) :: own, ro⟩ → W.heap[D]? = some (.deferred (some [])) →
      wb.heap.size ≤ D → (∀ e ∈ bxE Bs (.string (bs rest)) :: own, e.id ≠ some D) → c.wpIn Fence.wide 0 Tryz.prog Q { a with defers := { target := .collected D, args := #[] } :: a.defers } W) :
    (Code.rangeFunc g #[p] assign body).wpIn Fence.wide 0 Tryz.prog Q a w := by
  have eg : ∀ args w, (callFunc 50 args).run Tryz.prog w = .ok (.enter 50 args) w := enters_of Tryz.func50 (by kernel_rfl) rfl
  refine wpIn_rangeFunc ?_
  intro fn hfn
  rw [show Fence.wide.round = none from rfl]
  obtain ⟨rec, hrec⟩ : ∃ rec : LoopState → Option Code → Loop, rec = fun st pe => { state := st, pending := pe, fn, tmps := a.tmps, params := #[p], assign, body, defers := w.heap.size } := ⟨_, rfl⟩
  obtain ⟨W1, hW1⟩ : ∃ W1, (w.alloc (.deferred (some []))).alloc (.loop (rec .ready none)) = W1 := ⟨_, rfl⟩
  have hL1 : W1.heap[w.heap.size + 1]? = some (.loop (rec .ready none)) := by
    rw [← hW1]; have := World.alloc_heap_new (w.alloc (.deferred (some []))) (.loop (rec .ready none)); rwa [World.size_alloc] at this
  have hD1 : W1.heap[w.heap.size]? = some (.deferred (some [])) := by
    rw [← hW1]; exact (Below.heap_alloc _ _ _ (by simp)).trans (World.alloc_heap_new w _)
  have hbel : Below w.heap.size w W1 := by
    rw [← hW1]; exact ((Below.refl _ w).alloc (Nat.le_refl _) _).alloc (by simp) _
  have hh1 := holds_below hw0 hbel
  have hwb : wb.heap.size ≤ w.heap.size := hf0.size
  have hne0 : ∀ e ∈ bxE Bs (.string (bs t0)) :: own0, e.id ≠ some (w.heap.size + 1) ∧ e.id ≠ some w.heap.size := fun e he => ⟨fun h => by have := ids_lt hw0 he h; omega, fun h => by have := ids_lt hw0 he h; omega⟩
  have hK0 : LK I Bs (w.heap.size + 1) w.heap.size wb hb (rec .ready none) t0 W1 := ⟨⟨own0, ro0, h0, hh1.1, hf0.trans hh1.2, hne0⟩, hL1, hD1⟩
  refine ⟨w.heap.size + 1, [{ target := .collected w.heap.size, args := #[] }], W1, { target := .fn (.func 50) #[.pointer (some ⟨Bs, 0, none⟩)], args := #[.func (.yield (w.heap.size + 1)) #[] #[]] }, W1, 50,
    #[.func (.yield (w.heap.size + 1)) #[] #[]] ++ #[.pointer (some ⟨Bs, 0, none⟩)], W1, ?_, ?_, ?_, ?_, fun h => (by cases h), ?_⟩
  · rw [← hW1, hrec]; exact run_enterLoop_outer _ _ _ _ _
  · simp only [resolve, hg]
    simp [go_sem]
  · intro f' _; trivial
  · simp [invoke, go_sem, eg]
  · refine (lines1_in (w.heap.size + 1) Bs t0 (LK I Bs (w.heap.size + 1) w.heap.size wb hb (rec .ready none)) (LX X Bs (w.heap.size + 1) w.heap.size wb hb rec) ?_ ?_ ?_ ?_ W1 hK0).mono ?_
    · rintro t W ⟨⟨own, ro, hi, _⟩, _, _⟩
      exact hI _ _ _ hi
    · rintro t W ⟨⟨own, ro, hi, hh, _⟩, _, _⟩
      exact bx_cell (A := []) hh
    · rintro t W ⟨⟨own, ro, hi, hh, hf, hne⟩, hl, hd⟩
      exact ⟨⟨own, ro, hi, drew_holds hh, hf.trans (drew_fr _ _), hne⟩, hl, hd⟩
    · rintro t W ht ⟨⟨own, ro, hi, hh, hf, hne⟩, hl, hd⟩
      obtain ⟨hh2, hf2, hk2⟩ := bx_set (A := []) (.string (bs (lineOf t).2)) hh
      have hBs : Bs ≠ w.heap.size + 1 ∧ Bs ≠ w.heap.size := ⟨fun e => (hne (bxE Bs (.string (bs t))) (by simp)).1 (by rw [← e]; rfl), fun e => (hne (bxE Bs (.string (bs t))) (by simp)).2 (by rw [← e]; rfl)⟩
      have hl2 := (hk2 _ (Ne.symm hBs.1)).trans hl
      have hd2 := (hk2 _ (Ne.symm hBs.2)).trans hd
      have hne2 : ∀ e ∈ bxE Bs (.string (bs (lineOf t).2)) :: own, e.id ≠ some (w.heap.size + 1) ∧ e.id ≠ some w.heap.size := by
        intro e he
        simp only [List.mem_cons] at he
        rcases he with rfl | he
        · exact hne (bxE Bs (.string (bs t))) (by simp)
        · exact hne e (by simp [he])
      generalize W.setCell ⟨Bs, 0, none⟩ (.string (bs (lineOf t).2)) = W2 at hh2 hf2 hk2 hl2 hd2
      have hfb := hf.trans hf2
      clear hf2 hk2 hl hd hne hf hh
      have hy := run_yield (P := Tryz.prog) (args := #[.string (bs (lineOf t).1)]) hl2 (by rw [hrec]; rfl)
      rw [hrec] at hy
      have hy' : (Instr.yield (w.heap.size + 1) #[.string (bs (lineOf t).1)]).run Tryz.prog W2 = .ok (.round (w.heap.size + 1) fn (a.tmps.setIfInBounds p (.string (bs (lineOf t).1))) assign body) W2 := by
        rw [hy]
        simp [Array.zip, Array.zipWith, Array.zipWithMAux]
      refine ⟨fn, _, assign, body, hy', roundIn_of_wpIn trivial (hassign _ (lineOf t).1 W2 _ ?_)⟩
      refine ⟨_, run_beginRound hl2 (by rw [hrec]), ?_⟩
      have hlt : w.heap.size + 1 < W2.heap.size := (Array.getElem?_eq_some_iff.1 hl2).1
      have hl3 : (W2.putObj (w.heap.size + 1) (.loop { rec .ready none with state := .busy })).heap[w.heap.size + 1]? = some (.loop { rec .ready none with state := .busy }) := World.putObj_heap_same hlt
      have hd3 : (W2.putObj (w.heap.size + 1) (.loop { rec .ready none with state := .busy })).heap[w.heap.size]? = some (.deferred (some [])) := (World.putObj_heap_other (by omega)).trans hd2
      have hh3 := holds_put (o' := .loop { rec .ready none with state := .busy }) hh2 (fun e he => (hne2 e he).1) hl2 nc_loop nc_loop
      have hf3 := fr_put (o' := .loop { rec .ready none with state := .busy }) hfb (by omega) hl2 nc_loop nc_loop
      have hs3 : (W2.putObj (w.heap.size + 1) (.loop { rec .ready none with state := .busy })).heap.size = W2.heap.size := World.putObj_size
      generalize W2.putObj (w.heap.size + 1) (.loop { rec .ready none with state := .busy }) = W3 at hl3 hd3 hh3 hf3 hs3
      refine wpIn_mono (hbody _ t own ro W3 ht hi hh3) ?_
      have fin : ∀ (jump : Option Code) (W4 : World) (own' : List Ent) (ro' : Addr → Option Value), Holds W4 ⟨bxE Bs (.string (bs (lineOf t).2)) :: own', ro'⟩ → Fr W3 W4 ⟨bxE Bs (.string (bs (lineOf t).2)) :: own, ro⟩ ⟨bxE Bs (.string (bs (lineOf t).2)) :: own', ro'⟩ →
          ∃ W5, (Instr.endRound (w.heap.size + 1) jump).run Tryz.prog W4 = .ok (.bool jump.isNone) W5 ∧ Holds W5 ⟨bxE Bs (.string (bs (lineOf t).2)) :: own', ro'⟩ ∧ Fr wb W5 hb ⟨bxE Bs (.string (bs (lineOf t).2)) :: own', ro'⟩ ∧
          (∀ e ∈ bxE Bs (.string (bs (lineOf t).2)) :: own', e.id ≠ some (w.heap.size + 1) ∧ e.id ≠ some w.heap.size) ∧
          W5.heap[w.heap.size + 1]? = some (.loop (rec (if jump.isNone then .ready else .done) jump)) ∧ W5.heap[w.heap.size]? = some (.deferred (some [])) := fun jump W4 own' ro' h4 f4 => by
        have hl4 : W4.heap[w.heap.size + 1]? = some (.loop { rec .ready none with state := .busy }) := (f4.keep _ (by omega) (fun e he => (hne2 e he).1)).trans hl3
        have hd4 : W4.heap[w.heap.size]? = some (.deferred (some [])) := (f4.keep _ (by omega) (fun e he => (hne2 e he).2)).trans hd3
        have hne4 : ∀ e ∈ bxE Bs (.string (bs (lineOf t).2)) :: own', e.id ≠ some (w.heap.size + 1) ∧ e.id ≠ some w.heap.size := fun e he =>
          ⟨fun h => by
            rcases f4.ids e he _ h with ⟨e0, h0, h1⟩ | h1
            · exact (hne2 e0 h0).1 h1
            · omega, fun h => by
            rcases f4.ids e he _ h with ⟨e0, h0, h1⟩ | h1
            · exact (hne2 e0 h0).2 h1
            · omega⟩
        have hr := run_endRound (P := Tryz.prog) jump hl4
        refine ⟨_, hr, holds_put h4 (fun e he => (hne4 e he).1) hl4 nc_loop nc_loop, fr_put (hf3.trans f4) (by omega) hl4 nc_loop nc_loop, hne4, ?_, ?_⟩
        · rw [World.putObj_heap_same (Array.getElem?_eq_some_iff.1 hl4).1, hrec]
        · exact (World.putObj_heap_other (by omega)).trans hd4
      rintro e a3 W4 hp
      cases e with
      | normal =>
        obtain ⟨own', ro', hi', h4, f4⟩ := hp
        obtain ⟨W5, hr, h5, f5, n5, l5, d5⟩ := fin none W4 own' ro' h4 f4
        exact ⟨_, _, hr, .inl ⟨rfl, ⟨own', ro', hi', h5, f5, n5⟩, l5, d5⟩⟩
      | ret =>
        obtain ⟨own', ro', hi', h4, f4⟩ := hp
        obtain ⟨W5, hr, h5, f5, n5, l5, d5⟩ := fin (some .ret) W4 own' ro' h4 f4
        exact ⟨_, _, hr, .inr ⟨rfl, ⟨_, _, own', ro', hi', h5, f5, n5, l5⟩, d5⟩⟩
      | exit id =>
        obtain ⟨own', ro', hi', h4, f4⟩ := hp
        obtain ⟨W5, hr, h5, f5, n5, l5, d5⟩ := fin (some (.exit id)) W4 own' ro' h4 f4
        exact ⟨_, _, hr, .inr ⟨rfl, ⟨_, _, own', ro', hi', h5, f5, n5, l5⟩, d5⟩⟩
      | goto t => exact hp.elim
      | panic ch => exact hp.elim
      | outgrown => exact hp.elim
    · -- behind the iterator
      rintro e W2 ⟨⟨v, rfl⟩, (⟨⟨own, ro, hi, hh, hf, hne⟩, hl, hd⟩ | ⟨⟨c, rest, own, ro, hi, hh, hf, hne, hl⟩, hd⟩)⟩
      · refine ⟨none, _, by have := run_endLoop (P := Tryz.prog) hl (by rw [hrec]; simp); rw [hrec] at this; exact this, ?_⟩
        exact hdone own ro _ w.heap.size hi (holds_put hh (fun e he => (hne e he).1) hl nc_loop nc_loop) (fr_put hf (by omega) hl nc_loop nc_loop) ((World.putObj_heap_other (by omega)).trans hd) hwb (fun e he => (hne e he).2)
      · refine ⟨some c, _, by have := run_endLoop (P := Tryz.prog) hl (by rw [hrec]; simp); rw [hrec] at this; exact this, ?_⟩
        exact hstop c rest own ro _ w.heap.size hi (holds_put hh (fun e he => (hne e he).1) hl nc_loop nc_loop) (fr_put hf (by omega) hl nc_loop nc_loop) ((World.putObj_heap_other (by omega)).trans hd) hwb (fun e he => (hne e he).2)
end Go.Proofs.YtnppmcgmmdcpiaaGreatDoor
namespace Go.Proofs.YtnppmcgmmdcpiaaGreatDoor
open Go.Eng
set_option maxRecDepth 20000
/-! ### a function in parts: ahead of a piece, the piece, behind it -/
def preOf : Nat → Code → Code
  | 0, _ => .skip
  | k + 1, .seq a b => .seq a (preOf k b)
  | _ + 1, c => c
def restOf : Nat → Code → Code
  | 0, c => c
  | k + 1, .seq _ b => restOf k b
  | _ + 1, c => c
def okPre : Nat → Code → Hint → Bool
  | 0, _, _ => true
  | k + 1, .seq _ b, g => (match g with | .join _ _ => false | _ => true) && okPre k b g.r
  | _ + 1, _, _ => false
def preQ (N : F → H → Prop) (Qe : Exit → F → H → Prop) : Exit → F → H → Prop
  | .normal, f, h => N f h
  | e, f, h => Qe e f h
theorem pre_sound {P : Program} {n : Nat} {w0 : World} {h0 : H} (hm : P.follows .mixedOrders = true) {Qf : Exit → Act → World → Prop} {N : F → H → Prop} {Qe : Exit → F → H → Prop}
    (hE : ∀ e f h a w, e ≠ .normal → Inv n w0 h0 f h a w → Qe e f h → Qf e a w) :
    ∀ (k : Nat) (c : Code) (g : Hint) (f : F) (h : H) (a : Act) (w : World), okPre k c g = true → (∀ d ∈ writes c, d < n) → Inv n w0 h0 f h a w → exec P (preOf k c) g (preQ N Qe) f h →
      (∀ f h a w, Inv n w0 h0 f h a w → N f h → (restOf k c).wp P Qf a w) → c.wp P Qf a w
  | 0, c, g, f, h, a, w, _, _, hi, hx, hR => hR f h a w hi hx
  | k + 1, .seq x y, g, f, h, a, w, hok, hd, hi, hx, hR => by
    have hdx : ∀ d ∈ writes x, d < n := fun d h => hd d (by simp [writes, h])
    have hdy : ∀ d ∈ writes y, d < n := fun d h => hd d (by simp [writes, h])
    simp only [okPre, Bool.and_eq_true] at hok
    have hx2 : exec P x g.l (fun e f' h' => match e with | .normal => exec P (preOf k y) g.r (preQ N Qe) f' h' | e => preQ N Qe e f' h') f h := by
      have hx1 : wrap g (writes x ++ writes (preOf k y)) (preQ N Qe) f h (fun g Q => exec P x g.l (fun e f' h' => match e with | .normal => exec P (preOf k y) g.r Q f' h' | e => Q e f' h') f h) := hx
      unfold wrap at hx1
      split at hx1
      · simp at hok
      · exact hx1
    refine wp_seq (wp_mono (exec_sound hm x g.l _ f h a w hdx hi hx2) (fun e a' w' hq => ?_))
    obtain ⟨f', h', g1, _, g3⟩ := hq
    cases e with
    | normal => exact pre_sound hm hE k y g.r f' h' a' w' hok.2 hdy g1 g3 hR
    | ret => exact hE _ f' h' a' w' (by simp) g1 g3
    | exit id => exact hE _ f' h' a' w' (by simp) g1 g3
    | goto l => exact hE _ f' h' a' w' (by simp) g1 g3
    | panic ch => exact hE _ f' h' a' w' (by simp) g1 g3
    | outgrown => exact hE _ f' h' a' w' (by simp) g1 g3
  | _ + 1, .skip, _, _, _, _, _, hok, _, _, _, _ => nomatch hok
  | _ + 1, .ret, _, _, _, _, _, hok, _, _, _, _ => nomatch hok
  | _ + 1, .exit _, _, _, _, _, _, hok, _, _, _, _ => nomatch hok
  | _ + 1, .region _ _ _, _, _, _, _, _, hok, _, _, _, _ => nomatch hok
  | _ + 1, .cond _ _ _, _, _, _, _, _, hok, _, _, _, _ => nomatch hok
  | _ + 1, .block _ _, _, _, _, _, _, hok, _, _, _, _ => nomatch hok
  | _ + 1, .loop _, _, _, _, _, _, hok, _, _, _, _ => nomatch hok
  | _ + 1, .goto _, _, _, _, _, _, hok, _, _, _, _ => nomatch hok
  | _ + 1, .rangeFunc _ _ _ _, _, _, _, _, _, hok, _, _, _, _ => nomatch hok
/-- what is asked at a function's end -/
abbrev semEnd (h : H) (w : World) (post : Value → H → Prop) : Ending → World → Prop := fun e w' => ∃ v h2, e = .returned v ∧ Holds w' h2 ∧ Fr w w' h h2 ∧ post v h2
theorem ret_end {P : Program} {fn : Func} {post : Value → H → Prop} {h f' : _} {h' : H} {w w' : World} {a' : Act} {e : Exit} (g1 : Inv fn.ntmps w h f' h' a' w') (g3 : retQ P fn post e f' h') : bodyPost P fn (semEnd h w post) e a' w' := by
  have fin : resList P f' h' fn.results.toList (fun vs => VRet h' (one vs) post) → a'.defers = [] ∧ ∃ v, (results fn a'.tmps).run P w' = .ok v w' ∧ (∃ v0 h2, Ending.returned v = .returned v0 ∧ Holds w' h2 ∧ Fr w w' h h2 ∧ post v0 h2) := by
    intro hr
    obtain ⟨vs, k1, h2, k2, k3⟩ := resList_sound (P := P) g1.rel.get g1.holds _ _ hr
    exact ⟨g1.rel.defers, one vs, results_one k1, one vs, h2, rfl, k2.holds w' g1.holds, g1.fr.trans (k2.fr w'), k3⟩
  cases e with
  | normal => exact fin g3
  | ret => exact fin g3
  | exit id => exact g3.elim
  | goto l => exact g3.elim
  | panic ch => exact g3.elim
  | outgrown => exact g3.elim
theorem exec_end {P : Program} {fn : Func} {c : Code} {g : Hint} {post : Value → H → Prop} {h : H} {f' : F} {h' : H} {w w' : World} {a' : Act} (hm : P.follows .mixedOrders = true) (hd : ∀ d ∈ writes c, d < fn.ntmps) (g1 : Inv fn.ntmps w h f' h' a' w')
    (hx : exec P c g (retQ P fn post) f' h') : c.wp P (bodyPost P fn (semEnd h w post)) a' w' :=
  wp_mono (exec_sound hm c g _ f' h' a' w' hd g1 hx) (fun _ _ _ ⟨_, _, k1, _, k3⟩ => ret_end k1 k3)
/-- a call in parts -/
theorem sem_of_pre {P : Program} {fid : FuncId} {fn : Func} {c : Code} {g : Hint} {args : List Value} {h : H} {post : Value → H → Prop} (k : Nat) (hm : P.follows .mixedOrders = true) (hf : P.funcs[fid]? = some fn) (hb : fn.body = some c)
    (hn : (Nat.ble args.length fn.ntmps && (writes c).all fun d => Nat.ble (d + 1) fn.ntmps) = true) (hok : okPre k c g = true) {N : F → H → Prop} (hx : exec P (preOf k c) g (preQ N (retQ P fn post)) (F0 args) h)
    (hR : ∀ w f' h' a' w', Holds w h → Inv fn.ntmps w h f' h' a' w' → N f' h' → (restOf k c).wp P (bodyPost P fn (semEnd h w post)) a' w') : SemCall P fid args.toArray h post := by
  intro w hw
  rw [Bool.and_eq_true] at hn
  have hle := Nat.le_of_ble_eq_true hn.1
  have hd : ∀ d ∈ writes c, d < fn.ntmps := fun d hd => Nat.le_of_ble_eq_true (List.all_eq_true.1 hn.2 d hd)
  refine calls_of_wp hf hb ?_
  have hrel : Rel fn.ntmps (F0 args) { tmps := args.toArray ++ Array.replicate (fn.ntmps - args.toArray.size) undef, defers := [] } := by
    refine ⟨rfl, by simp; omega, fun t => ?_⟩
    show (args.toArray ++ Array.replicate (fn.ntmps - args.toArray.size) undef).getD t undef = args.getD t undef
    by_cases ht : t < args.length
    · simp [Array.getD, List.getD, ht, Nat.lt_add_right _ ht]
    · have e1 : args.getD t undef = undef := by simp [List.getD, List.getElem?_eq_none (Nat.le_of_not_lt ht)]
      rw [e1]
      simp only [Array.getD]
      split
      · rename_i hlt
        simp only [Array.getInternal_eq_getElem]
        rw [Array.getElem_append_right (by simpa using Nat.le_of_not_lt ht)]
        simp
      · rfl
  exact pre_sound (Qf := bodyPost P fn (semEnd h w post)) hm (fun e f h2 a w2 _ g1 g3 => ret_end g1 g3) k c g _ h _ w hok hd ⟨hrel, hw, Fr.refl w h⟩ hx (fun f h2 a w2 g1 g3 => hR w f h2 a w2 hw g1 g3)
end Go.Proofs.YtnppmcgmmdcpiaaGreatDoor
