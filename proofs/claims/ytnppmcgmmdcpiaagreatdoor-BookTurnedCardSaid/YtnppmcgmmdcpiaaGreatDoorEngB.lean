import Derived.Test.YtnppmcgmmdcpiaaGreatDoorEngA
/- The engine, second part: verification conditions. -/
namespace Go.Eng

/-! ### reading and writing the state -/

def H.rd (h : H) (a : Addr) (v : Value) : Prop := a.spot = none ∧ ((∃ e ∈ h.own, e.aid = some a.block ∧ e.cells[a.off]? = some v) ∨ h.ro a = some v)

def spl (cells : List Value) (o : Nat) (vs : List Value) : List Value := cells.take o ++ (vs ++ cells.drop (o + vs.length))

def allOne : List Value → Prop
  | [] => True
  | v :: vs => v.oneCell' = true ∧ allOne vs

def H.wr (h : H) (a : Addr) (vs : List Value) (K : H → Prop) : Prop :=
  a.spot = none ∧ allOne vs ∧ ∃ (A : List Ent) (e : Ent) (C : List Ent), h.own = A ++ e :: C ∧ e.aid = some a.block ∧ a.off + vs.length ≤ e.cells.length ∧ K ⟨A ++ ⟨e.aid, spl e.cells a.off vs, e.cap⟩ :: C, h.ro⟩

def H.fresh (h : H) (r : Nat) : Prop := (∀ e ∈ h.own, e.id ≠ some r) ∧ ∀ a v, h.ro a = some v → a.block ≠ r

def H.new (h : H) (cells : List Value) (K : Nat → H → Prop) : Prop :=
  ∀ r, h.fresh r → K r ⟨h.own ++ [⟨some r, cells, cells.length⟩], h.ro⟩

/-! ### frames -/

abbrev F := Nat → Value

def upd (f : F) (t : Nat) (v : Value) : F := fun j => cond (Nat.beq j t) v (f j)

def put (f : F) (d : Option Tmp) (v : Value) : F :=
  match d with
  | some t => upd f t v
  | none => f

def ev (f : F) : Operand → Value
  | .tmp t => f t
  | .const v => v
  | .global g => .pointer (some ⟨g, 0, none⟩)
  | .func n => .func (.func n) #[] #[]

def memB (t : Nat) : List Nat → Bool
  | [] => false
  | d :: l => cond (Nat.beq t d) true (memB t l)

def merge (f : F) (W : List Nat) (g : F) : F := fun t => cond (memB t W) (g t) (f t)

/-! ### relations over slots -/

abbrev Sl := List (Nat × Kd)

def RelTy : Sl → Type
  | [] => H → Prop
  | p :: S => p.2.ty → RelTy S

def appS : (S : Sl) → RelTy S → F → H → Prop
  | [], R, _, h => ∃ h2, Gh h h2 ∧ R h2
  | p :: S, R, f, h => p.2.elim (f p.1) fun x => appS S (R x) f h

def allS : (S : Sl) → RelTy S → F → (F → H → Prop) → Prop
  | [], R, f, k => ∀ h, R h → k f h
  | p :: S, R, f, k => ∀ x : p.2.ty, allS S (R x) (upd f p.1 (p.2.val x)) k

/-! ### types -/

def isAggB (P : Program) (t : TypeId) : Bool :=
  match P.underlying t with
  | some (.struct _) => true
  | some (.array _ _) => true
  | _ => false

def kdOf (P : Program) (t : TypeId) : Kd :=
  match P.underlying t with
  | some (.int .i64) => .int
  | some (.int .u8) => .u8
  | some .bool => .bool
  | some (.pointer _) => .ptr
  | some (.slice _) => .sl
  | some (.interface _) => .err
  | some .string => .str
  | _ => .any

def flat (P : Program) : Nat → TypeId → List Kd
  | 0, _ => []
  | d + 1, t => match P.underlying t with
    | some (.struct fs) => fs.toList.flatMap fun f => flat P d f.type
    | some (.array n e) => (List.replicate n (flat P d e)).flatten
    | _ => [kdOf P t]

def rdKs (get : Nat → Value → Prop) : List Kd → Nat → (List Value → Prop) → Prop
  | [], _, K => K []
  | k :: ks, i, K => ∃ x : k.ty, get i (k.val x) ∧ rdKs get ks (i + 1) fun vs => K (k.val x :: vs)

/-- a typed reading of a variable of type t, cell by cell -/
def getVC (P : Program) (t : TypeId) (get : Nat → Value → Prop) (K : Value → Prop) : Prop :=
  cond (isAggB P t)
    (cond (Nat.ble (flat P 6 t).length 20 && Nat.beq (flat P 6 t).length (P.cellsOf t))
      (rdKs get (flat P 6 t) 0 fun vs => K (.agg vs.toArray))
      (∃ vs : List Value, vs.length = P.cellsOf t ∧ (∀ j v, vs[j]? = some v → get j v) ∧ K (.agg vs.toArray)))
    (∃ x : (kdOf P t).ty, get 0 ((kdOf P t).val x) ∧ K ((kdOf P t).val x))

def exKs : List Kd → (List Value → Prop) → Prop
  | [], K => K []
  | k :: ks, K => ∃ x : k.ty, exKs ks fun vs => K (k.val x :: vs)

def valK (P : Program) (t : TypeId) (K : Value → Prop) : Prop :=
  cond (isAggB P t)
    (cond (Nat.ble (flat P 6 t).length 20)
      (exKs (flat P 6 t) fun vs => K (.agg vs.toArray))
      (∃ vs : List Value, K (.agg vs.toArray)))
    (∃ x : (kdOf P t).ty, K ((kdOf P t).val x))

def tupK (P : Program) : List TypeId → (List Value → Prop) → Prop
  | [], K => K []
  | t :: ts, K => valK P t fun v => tupK P ts fun vs => K (v :: vs)

def resVC (P : Program) (t : TypeId) (v : Value) (K : Value → Prop) : Prop :=
  match P.underlying t with
  | some (.tuple ts) => tupK P ts.toList fun vs => v = .tuple vs.toArray ∧ K (.tuple vs.toArray)
  | _ => valK P t fun v' => v = v' ∧ K v'

/-! ### operations that only read -/

def In64 (n : Int) : Prop := -9223372036854775808 ≤ n ∧ n ≤ 9223372036854775807

def bitsV (op : BinOp) (a b : Int) : Int :=
  match op with
  | .and => IntKind.i64.wrap (BitVec.ofInt IntKind.i64.bits a &&& BitVec.ofInt IntKind.i64.bits b).toNat
  | .or => IntKind.i64.wrap (BitVec.ofInt IntKind.i64.bits a ||| BitVec.ofInt IntKind.i64.bits b).toNat
  | .xor => IntKind.i64.wrap (BitVec.ofInt IntKind.i64.bits a ^^^ BitVec.ofInt IntKind.i64.bits b).toNat
  | _ => IntKind.i64.wrap (BitVec.ofInt IntKind.i64.bits a &&& ~~~ BitVec.ofInt IntKind.i64.bits b).toNat

def intVC (op : BinOp) (a b : Int) (K : Value → Prop) : Prop :=
  match op with
  | .add => In64 (a + b) ∧ K (.int .i64 (a + b))
  | .sub => In64 (a - b) ∧ K (.int .i64 (a - b))
  | .mul => In64 (a * b) ∧ K (.int .i64 (a * b))
  | .quo => b ≠ 0 ∧ In64 (a.tdiv b) ∧ K (.int .i64 (a.tdiv b))
  | .rem => b ≠ 0 ∧ K (.int .i64 (a.tmod b))
  | .and => K (.int .i64 (bitsV .and a b))
  | .or => K (.int .i64 (bitsV .or a b))
  | .xor => K (.int .i64 (bitsV .xor a b))
  | .andNot => K (.int .i64 (bitsV .andNot a b))
  | .shl => 0 ≤ b ∧ b ≤ 63 ∧ In64 (a * 2 ^ b.toNat) ∧ K (.int .i64 (a * 2 ^ b.toNat))
  | .shr => 0 ≤ b ∧ b ≤ 63 ∧ K (.int .i64 (a.fdiv (2 ^ b.toNat)))
  | .eql => K (.bool (a == b))
  | .neq => K (.bool (a != b))
  | .lss => K (.bool (decide (a < b)))
  | .leq => K (.bool (decide (a ≤ b)))
  | .gtr => K (.bool (decide (a > b)))
  | .geq => K (.bool (decide (a ≥ b)))

def isIfaceV : Value → Bool
  | .nilIface => true
  | .iface _ _ => true
  | _ => false
def isNilV : Value → Bool
  | .nilIface => true
  | _ => false

def eqK (op : BinOp) (b : Bool) (K : Value → Prop) : Prop :=
  match op with
  | .eql => K (.bool b)
  | .neq => K (.bool (!b))
  | _ => False

/-- strings, joined or compared -/
def strVC (op : BinOp) (a b : ByteArray) (K : Value → Prop) : Prop :=
  match op with
  | .add => ((a.size + b.size : Nat) : Int) ≤ 9223372036854775807 ∧ K (.string (a ++ b))
  | .eql => K (.bool (a.toList == b.toList))
  | .neq => K (.bool (!(a.toList == b.toList)))
  | _ => False

/-- bytes -/
def u8VC (op : BinOp) (a b : Int) (K : Value → Prop) : Prop :=
  match op with
  | .sub => 0 ≤ a - b ∧ a - b ≤ 255 ∧ K (.int .u8 (a - b))
  | .eql => K (.bool (a == b))
  | .neq => K (.bool (a != b))
  | .lss => K (.bool (decide (a < b)))
  | .leq => K (.bool (decide (a ≤ b)))
  | .gtr => K (.bool (decide (a > b)))
  | .geq => K (.bool (decide (a ≥ b)))
  | _ => False

def binVC (P : Program) (op : BinOp) (t : TypeId) (yo : Operand) (x y : Value) (K : Value → Prop) : Prop :=
  match y with
  | .int .i64 b => (match x with | .int .i64 a => intVC op a b K | _ => False)
  | .bool b => (match x with | .bool a => (match P.underlying t with | some .bool => eqK op (a == b) K | _ => False) | _ => False)
  | .pointer none => (match x with | .pointer p => (match P.underlying t with | some (.pointer _) => eqK op p.isNone K | _ => False) | _ => False)
  | .slice none _ _ => (match x with | .slice a _ _ => (match P.underlying t with | some (.slice _) => eqK op a.isNone K | _ => False) | _ => False)
  | .nilIface => (match yo with
    | .const _ => (match P.underlying t with | some (.interface _) => isIfaceV x = true ∧ eqK op (isNilV x) K | _ => False)
    | _ => False)
  | .string b => (match x with | .string a => strVC op a b K | _ => False)
  | .int .u8 b => (match x with | .int .u8 a => u8VC op a b K | _ => False)
  | _ => False

def unVC (op : UnOp) (x : Value) (K : Value → Prop) : Prop :=
  match op, x with
  | .not, .bool b => K (.bool (!b))
  | .neg, .int .i64 n => In64 (0 - n) ∧ K (.int .i64 (0 - n))
  | _, _ => False

def convVC (P : Program) (s d : TypeId) (x : Value) (K : Value → Prop) : Prop :=
  match P.underlying s with
  | none => False
  | some _ => (match P.underlying d, x with
    | some (.int .i64), .int _ n => In64 n ∧ K (.int .i64 n)
    | _, _ => False)

def pickVC (c a b : Value) (K : Value → Prop) : Prop :=
  match c with
  | .bool t => (match a, b with
    | .bool x, .bool y => K (.bool (cond t x y))
    | _, _ => (match t with | true => K a | false => K b))
  | _ => False

def fieldAddrVC (P : Program) (s : TypeId) (x : Value) (i : Nat) (K : Value → Prop) : Prop :=
  match P.underlying s, x with
  | some (.struct fs), .pointer (some a) => (match fs[i]? with
    | some fd => cond (Nat.beq (P.cellsOf fd.type) 0) False (K (.pointer (some (a.add fd.offset))))
    | none => False)
  | _, _ => False

def idxAddrVC (P : Program) (t : TypeId) (x ix : Value) (K : Value → Prop) : Prop :=
  match ix with
  | .int _ i => (match P.underlying t, x with
    | some (.slice e), .slice a l _ => cond (P.underlying e).isSome (∃ b, a = some b ∧ 0 ≤ i ∧ i < (l : Int) ∧ K (.pointer (some (b.add (i.toNat * P.cellsOf e))))) False
    | some (.array n e), .pointer (some b) => cond (P.underlying e).isSome (0 ≤ i ∧ i < (n : Int) ∧ K (.pointer (some (b.add (i.toNat * P.cellsOf e))))) False
    | _, _ => False)
  | _ => False

def partVC (P : Program) (t : TypeId) (cs : List Value) (off : Nat) (K : Value → Prop) : Prop :=
  cond (isAggB P t)
    (cond (P.underlying t).isSome (K (.agg ((cs.drop off).take (P.cellsOf t)).toArray)) False)
    (match cs[off]? with | some v => K v | none => False)

def fieldVC (P : Program) (t : TypeId) (x : Value) (i : Nat) (K : Value → Prop) : Prop :=
  match P.underlying t, x with
  | some (.struct fs), .agg cs => (match fs[i]? with | some fd => cond (P.underlying fd.type).isSome (partVC P fd.type cs.toList fd.offset K) False | none => False)
  | _, _ => False

def idxVC (P : Program) (t : TypeId) (x ix : Value) (K : Value → Prop) : Prop :=
  match ix with
  | .int _ i => (match P.underlying t, x with
    | some (.array n e), .agg cs => 0 ≤ i ∧ i < (n : Int) ∧ cond (P.underlying e).isSome (getVC P e (fun j v => cs.toList[i.toNat * P.cellsOf e + j]? = some v) K) False
    | some .string, .string s => 0 ≤ i ∧ i < (s.size : Int) ∧ K (.int .u8 ((s.data.toList.getD i.toNat 0).toNat))
    | _, _ => False)
  | _ => False

def sliceVC (P : Program) (t : TypeId) (x : Value) (lo hi : Option Value) (K : Value → Prop) : Prop :=
  match P.underlying t, x with
  | some (.slice e), .slice a l c => cond (P.underlying e).isSome
    (match lo, hi with
      | none, none => K (.slice a l c)
      | none, some (.int .i64 j) => 0 ≤ j ∧ j ≤ (c : Int) ∧ K (.slice a j.toNat c)
      | some (.int .i64 i), none => 0 ≤ i ∧ i ≤ (l : Int) ∧ K (.slice (if c = i.toNat then a else a.map (·.add (i.toNat * P.cellsOf e))) (l - i.toNat) (c - i.toNat))
      | some (.int .i64 i), some (.int .i64 j) => 0 ≤ j ∧ j ≤ (c : Int) ∧ 0 ≤ i ∧ i ≤ j ∧ K (.slice (if c = i.toNat then a else a.map (·.add (i.toNat * P.cellsOf e))) (j.toNat - i.toNat) (c - i.toNat))
      | _, _ => False) False
  | some (.array n e), .pointer (some a) => cond ((P.underlying e).isSome && !(Nat.beq n 0))
    (match lo, hi with
      | none, none => K (.slice (some (a.add 0)) n n)
      | none, some (.int .i64 j) => 0 ≤ j ∧ j ≤ (n : Int) ∧ K (.slice (some (a.add 0)) j.toNat n)
      | _, _ => False) False
  | some .string, .string s =>
    (match lo, hi with
      | none, some (.int .i64 j) => 0 ≤ j ∧ j ≤ (s.size : Int) ∧ K (.string (s.extract 0 j.toNat))
      | some (.int .i64 i), none => 0 ≤ i ∧ i ≤ (s.size : Int) ∧ K (.string (s.extract i.toNat s.size))
      | some (.int .i64 i), some (.int .i64 j) => 0 ≤ j ∧ j ≤ (s.size : Int) ∧ 0 ≤ i ∧ i ≤ j ∧ K (.string (s.extract i.toNat j.toNat))
      | _, _ => False)
  | _, _ => False

def slice3VC (P : Program) (t : TypeId) (x : Value) (lo hi : Option Value) (mx : Value) (K : Value → Prop) : Prop :=
  match P.underlying t, x with
  | some (.slice e), .slice a _ c => cond (P.underlying e).isSome
    (match lo, hi, mx with
      | some (.int .i64 i), some (.int .i64 j), .int .i64 m => 0 ≤ m ∧ m ≤ (c : Int) ∧ 0 ≤ j ∧ j ≤ m ∧ 0 ≤ i ∧ i ≤ j ∧ K (.slice (if m.toNat = i.toNat then a else a.map (·.add (i.toNat * P.cellsOf e))) (j.toNat - i.toNat) (m.toNat - i.toNat))
      | _, _, _ => False) False
  | _, _ => False

def isIfaceT (P : Program) (t : TypeId) : Bool :=
  match P.underlying t with
  | some (.interface _) => true
  | _ => false

/-- is part i of a type an interface value? -/
def isEof (P : Program) (t : TypeId) (i : Nat) : Bool :=
  match P.underlying t with
  | some (.struct fs) => (match fs[i]? with | some fd => isIfaceT P fd.type | none => false)
  | some (.array _ e) => isIfaceT P e
  | _ => false

/-- parts laid in: an interface value is one cell, whatever it is -/
def fillE (place : Nat → Option (Nat × Nat)) (isE : Nat → Bool) (cells : Array Value) : List (Nat × Value) → Option (Array Value)
  | [] => some cells
  | p :: rest => match place p.1 with
    | none => none
    | some q => cond (isE p.1)
      (cond (Nat.beq q.2 1 && Nat.ble (q.1 + 1) cells.size) (fillE place isE (cells.setIfInBounds q.1 p.2) rest) none)
      (if p.2.cells.size ≠ q.2 || q.1 + p.2.cells.size > cells.size then none
      else fillE place isE (p.2.cells.zipIdx.foldl (fun cs (c, j) => cs.setIfInBounds (q.1 + j) c) cells) rest)

def withE (isE : Nat → Bool) : List (Nat × Value) → Prop → Prop
  | [], K => K
  | p :: l, K => cond (isE p.1) (p.2.oneCell' = true ∧ withE isE l K) (withE isE l K)

def buildV (P : Program) (t : TypeId) (parts : List (Nat × Value)) : Option (List Value) :=
  match (P.info? t).bind (·.zero) with
  | none => none
  | some z => match P.underlying t with
    | some (.struct fs) => cond (fs.toList.all fun fd => (P.underlying fd.type).isSome) ((fillE ((fs.map fun fd => (fd.offset, P.cellsOf fd.type))[·]?) (isEof P t) z.cells parts).map (·.toList)) none
    | some (.array _ e) => cond (P.underlying e).isSome ((fillE (fun i => some (i * P.cellsOf e, P.cellsOf e)) (isEof P t) z.cells parts).map (·.toList)) none
    | _ => none

def lenVC (P : Program) (t : TypeId) (x : Value) (K : Value → Prop) : Prop :=
  match P.underlying t, x with
  | some (.slice _), .slice _ n _ => K (.int .i64 n)
  | some .string, .string s => K (.int .i64 s.size)
  | some (.array n _), _ => K (.int .i64 n)
  | _, _ => False

def extractVC (x : Value) (i : Nat) (K : Value → Prop) : Prop :=
  match x with
  | .tuple vs => (match vs.toList[i]? with | some v => K v | none => False)
  | _ => False

def readVC (P : Program) (f : F) (h : H) (op : Op) (K : Value → Prop) : Prop :=
  match op with
  | .move x => K (ev f x)
  | .assign x => K (ev f x)
  | .pick c a b => pickVC (ev f c) (ev f a) (ev f b) K
  | .load t a => (match ev f a with | .pointer (some a) => cond (P.underlying t).isSome (getVC P t (fun j v => h.rd (a.add j) v) K) False | _ => False)
  | .nilCheck x => (match ev f x with | .pointer p => ∃ a, p = some a ∧ K (.pointer (some a)) | _ => False)
  | .binOp op t x y _ => binVC P op t y (ev f x) (ev f y) K
  | .unOp op _ x => unVC op (ev f x) K
  | .convert s d x => convVC P s d (ev f x) K
  | .makeInterface t x => (match P.underlying t with | some (.interface _) => False | some _ => K (.iface t (ev f x)) | none => False)
  | .makeFunc fn first captured => K (.func fn (first.map (ev f)) (captured.map (ev f)))
  | .fieldAddr s x i => fieldAddrVC P s (ev f x) i K
  | .field t x i => fieldVC P t (ev f x) i K
  | .indexAddr t x i => idxAddrVC P t (ev f x) (ev f i) K
  | .index t x i => idxVC P t (ev f x) (ev f i) K
  | .slice t x lo hi mx => (match mx with | none => sliceVC P t (ev f x) (lo.map (ev f)) (hi.map (ev f)) K | some m => slice3VC P t (ev f x) (lo.map (ev f)) (hi.map (ev f)) (ev f m) K)
  | .extract t i => extractVC (ev f t) i K
  | .build t ps => (match buildV P t (ps.toList.map fun p => (p.1, ev f p.2)) with | some cs => withE (isEof P t) (ps.toList.map fun p => (p.1, ev f p.2)) (K (.agg cs.toArray)) | none => False)
  | .call c => (match c.callee with
    | .builtin .len => (match c.argTypes.toList, c.args.toList with | t :: _, x :: _ => lenVC P t (ev f x) K | _, _ => False)
    | .builtin .min => (match c.args.toList.map (ev f) with | [.int .i64 a, .int .i64 b] => K (.int .i64 (if b < a then b else a)) | _ => False)
    | .builtin .max => (match c.args.toList.map (ev f) with | [.int .i64 a, .int .i64 b] => K (.int .i64 (if b > a then b else a)) | _ => False)
    | _ => False)
  | _ => False

/-! ### operations that write -/

def repl (n : Nat) (zs : List Value) : List Value := (List.replicate n zs).flatten

/-- slice value s of elements of sz cells owns entry e, which reads xs -/
def OwnsSl (sz : Nat) (s : SV) (e : Ent) (xs : List Value) : Prop :=
  (s.a = none ∧ s.len = 0 ∧ s.cap = 0 ∧ e.aid = none ∧ e.cells = [] ∧ xs = []) ∨
  ∃ b off, s.a = some ⟨b, off, none⟩ ∧ e.aid = some b ∧ e.cells.length = off + s.len * sz ∧ off + s.cap * sz ≤ e.cap ∧ s.len ≤ s.cap ∧ s.cap ≤ maxLen ∧ e.cells.drop off = xs

def rdS (h : H) (a : Option Addr) (ys : List Value) : Prop :=
  match a with
  | none => ys = []
  | some b => ∀ j v, ys[j]? = some v → h.rd (b.add j) v

def appVC (P : Program) (t : TypeId) (s x : Value) (h : H) (K : SV → H → Prop) : Prop :=
  match P.underlying t, s, x with
  | some (.slice e), .slice a l c, .slice xa n _ =>
    ∃ ys : List Value, ys.length = n * P.cellsOf e ∧ rdS h xa ys ∧ allOne ys ∧ (xa = none → n = 0) ∧
    ∃ h2, Gh h h2 ∧ ∃ (A : List Ent) (en : Ent) (C : List Ent) (xs : List Value), h2.own = A ++ en :: C ∧ OwnsSl (P.cellsOf e) ⟨a, l, c⟩ en xs ∧
      l + n ≤ 1000000000 ∧ P.cellsOf e ≠ 0 ∧ P.bytesOf e ≤ 100000 ∧ (∃ z, (P.info? e).bind (·.zero) = some z ∧ z.cells.size = P.cellsOf e) ∧
      ∀ (s' : SV) (en' : Ent), OwnsSl (P.cellsOf e) s' en' (xs ++ ys) → s'.len = l + n → ((s'.a = none ↔ a = none ∧ n = 0) ∧ (l + n ≤ c → s'.cap = c ∧ s'.a = a ∧ en'.id = en.id ∧ en'.cap = en.cap)) →
        (∀ b, en'.id = some b → en.id = some b ∨ h2.fresh b) → K s' ⟨A ++ en' :: C, h2.ro⟩
  | _, _, _ => False

def clearVC (P : Program) (t : TypeId) (x : Value) (h : H) (K : H → Prop) : Prop :=
  match P.underlying t, x with
  | some (.slice e), .slice a n _ => (n = 0 ∧ K h) ∨ ∃ (b : Addr) (A : List Ent) (en : Ent) (C : List Ent), a = some b ∧ b.spot = none ∧ h.own = A ++ en :: C ∧ en.aid = some b.block ∧ en.cells.length ≤ b.off ∧ b.off + n * P.cellsOf e ≤ en.cap ∧
      (∃ z, (P.info? e).bind (·.zero) = some z ∧ z.cells.size = P.cellsOf e ∧ allOne z.cells.toList) ∧ K h
  | _, _ => False

def writeVC (P : Program) (f : F) (h : H) (op : Op) (K : Value → H → Prop) : Prop :=
  match op with
  | .alloc t => (match (P.info? t).bind (·.zero) with | some z => h.new z.cells.toList fun r h' => K (.pointer (some ⟨r, 0, none⟩)) h' | none => False)
  | .box t x => cond (isAggB P t)
      (match ev f x with | .agg cs => h.new cs.toList fun r h' => K (.pointer (some ⟨r, 0, none⟩)) h' | _ => False)
      ((ev f x).oneCell' = true ∧ h.new [ev f x] fun r h' => K (.pointer (some ⟨r, 0, none⟩)) h')
  | .buildSlice t len ps => (match P.underlying t with
    | some (.slice e) => (match (P.info? e).bind (·.zero) with
      | some z => cond (Nat.beq (len * P.cellsOf e) 0)
        (match ps.toList with | [] => h.new [] fun r h' => K (.slice (some ⟨r, 0, none⟩) len len) h' | _ => False)
        (cond (Nat.ble (len * P.cellsOf e) 16777216)
        (match Instr.fill (fun i => some (i * P.cellsOf e, P.cellsOf e)) ((Array.range (len * P.cellsOf e)).map (z.cells[· % z.cells.size]!)) (ps.toList.map fun p => (p.1, ev f p.2)) with
        | some cs => h.new cs.toList fun r h' => K (.slice (some ⟨r, 0, none⟩) len len) h'
        | none => False) False)
      | none => False)
    | _ => False)
  | .makeSlice t l c => (match P.underlying t, ev f l, ev f c with
    | some (.slice e), .int .i64 l, .int .i64 c => (match (P.info? e).bind (·.zero) with
      | some z => cond (Nat.beq z.cells.size (P.cellsOf e) && !(Nat.beq z.cells.size 0))
        (0 ≤ l ∧ l ≤ c ∧ P.bytesOf e * c ≤ 140737488355328 ∧ c ≤ 1000000000 ∧ h.new (repl c.toNat z.cells.toList) fun r h' => K (.slice (some ⟨r, 0, none⟩) l.toNat c.toNat) h') False
      | none => False)
    | _, _, _ => False)
  | .store t a x => (match ev f a with
    | .pointer (some a) => cond (isAggB P t)
      (match ev f x with | .agg cs => cs.toList.length = P.cellsOf t ∧ (P.underlying t).isSome = true ∧ h.wr a cs.toList fun h' => K undef h' | _ => False)
      (cond (Nat.beq (P.cellsOf t) 1) (h.wr a [ev f x] fun h' => K undef h') False)
    | _ => False)
  | .call c => (match c.callee with
    | .builtin .append => (match c.argTypes.toList, c.args.toList with
      | [t, t'], [s, x] => cond (Nat.beq t t') (appVC P t (ev f s) (ev f x) h fun s' h' => K (.slice s'.a s'.len s'.cap) h') False
      | _, _ => False)
    | .builtin .clear => (match c.argTypes.toList, c.args.toList with
      | t :: _, s :: _ => clearVC P t (ev f s) h fun h' => K undef h'
      | _, _ => False)
    | _ => False)
  | _ => False

/-- the function and all arguments of a call -/
def callee (f : F) (c : Call) : Option (FuncId × List Value) :=
  match c.callee with
  | .value x => (match ev f x with
    | .func (.func n) first captured => some (n, first.toList ++ (c.args.toList.map (ev f) ++ captured.toList))
    | _ => none)
  | _ => none

def isWrite : Op → Bool
  | .alloc _ => true
  | .box _ _ => true
  | .buildSlice _ _ _ => true
  | .makeSlice _ _ _ => true
  | .store _ _ _ => true
  | .call c => (match c.callee with | .builtin .append => true | .builtin .clear => true | _ => false)
  | _ => false

def isCall : Op → Bool
  | .call c => (match c.callee with | .builtin _ => false | _ => true)
  | _ => false

def bodied (P : Program) (n : FuncId) : Bool :=
  match P.funcs[n]? with
  | some fn => fn.body.isSome && !(fn.name == "runtime.NumGoroutine")
  | none => false

/-- the method of a dynamic type that is a pointer: its own, no path to it -/
def methodAt (P : Program) (t : TypeId) (m : String) : Option FuncId :=
  match P.info? t with
  | none => none
  | some ti => (match ti.methods.find? (·.name == m) with
    | some x => cond x.path.isEmpty (match x.func, P.underlying t with | some (n, true), some (.pointer _) => some n | _, _ => none) none
    | none => none)

/-- a method called through an interface value -/
def InvVC (P : Program) (recv : Value) (m : String) (args : List Value) (h : H) (K : Value → H → Prop) : Prop :=
  ∃ (t : TypeId) (u : Value) (n : FuncId), recv = .iface t u ∧ methodAt P t m = some n ∧ bodied P n = true ∧ SemCall P n (List.toArray (u :: args)) h K

def opVC (P : Program) (still : Bool) (f : F) (h : H) (o : Oper) (K : Value → H → Prop) : Prop :=
  match o.op with
  | .call c => (match c.callee with
    | .builtin .append => cond still False (writeVC P f h (.call c) K)
    | .builtin .clear => cond still False (writeVC P f h (.call c) K)
    | .builtin _ => readVC P f h (.call c) fun v => K v h
    | .invoke x m => cond still False (InvVC P (ev f x) m (c.args.toList.map (ev f)) h fun v h' => resVC P o.type v fun v => K v h')
    | _ => (match callee f c with
      | some (n, args) => cond (bodied P n)
        (cond still (∃ v, PureCall P n args.toArray v ∧ resVC P o.type v fun v => K v h) (SemCall P n args.toArray h fun v h' => resVC P o.type v fun v => K v h')) False
      | none => False))
  | op => cond (isWrite op) (cond still False (writeVC P f h op K)) (readVC P f h op fun v => K v h)

/-! ### regions -/

def VIf (t : Bool) (A B : Prop) : Prop := (t = true → A) ∧ (t = false → B)

def dstOf (ops : List Oper) (j : Nat) : Option Tmp := (ops[j]?).bind (·.dst)

def knGet : List (Nat × Bool) → Nat → Option Bool
  | [], _ => none
  | p :: l, s => cond (Nat.beq p.1 s) (some p.2) (knGet l s)

def knDel (l : List (Nat × Bool)) (d : Option Tmp) : List (Nat × Bool) :=
  match d with
  | none => l
  | some d => l.filter fun p => !(Nat.beq p.1 d)

def knOp (kn : List (Nat × Bool)) : Operand → Option Bool
  | .tmp s => knGet kn s
  | .const (.bool b) => some b
  | _ => none

/-- what an operation yields, where that is known by the branch taken -/
def knOf (kn : List (Nat × Bool)) : Op → Option Bool
  | .move x => knOp kn x
  | .assign x => knOp kn x
  | .unOp .not _ x => (match knOp kn x with | some t => some (!t) | none => none)
  | .pick c a b => (match knOp kn c with | some t => knOp kn (cond t a b) | none => none)
  | _ => none

def stepOp (P : Program) (still : Bool) (o : Oper) (kn : List (Nat × Bool)) (f : F) (h : H) (K : List (Nat × Bool) → F → H → Prop) : Prop :=
  match knOf kn o.op, o.dst with
  | some t, some d => K ((d, t) :: knDel kn (some d)) (upd f d (.bool t)) h
  | _, _ => opVC P still f h o fun v h' => K (knDel kn o.dst) (put f o.dst v) h'

def stepGuard (P : Program) (ops : List Oper) (still : Bool) (o : Oper) (kn : List (Nat × Bool)) (f : F) (h : H) (K : List (Nat × Bool) → F → H → Prop) : Prop :=
  match o.guard with
  | none => stepOp P still o kn f h K
  | some (j, b) => match dstOf ops j with
    | none => K (knDel kn o.dst) (put f o.dst undef) h
    | some s => match knGet kn s with
      | some t => cond (t == b) (stepOp P still o kn f h K) (K (knDel kn o.dst) (put f o.dst undef) h)
      | none => match f s with
        | .bool t => VIf t
            (cond (true == b) (stepOp P still o ((s, true) :: kn) (upd f s (.bool true)) h K) (K (knDel ((s, true) :: kn) o.dst) (put (upd f s (.bool true)) o.dst undef) h))
            (cond (false == b) (stepOp P still o ((s, false) :: kn) (upd f s (.bool false)) h K) (K (knDel ((s, false) :: kn) o.dst) (put (upd f s (.bool false)) o.dst undef) h))
        | .tuple _ => K (knDel kn o.dst) (put f o.dst undef) h
        | _ => False

def execOps (P : Program) (ops : List Oper) (still : Bool) (K : F → H → Prop) : List Oper → List (Nat × Bool) → F → H → Prop
  | [], _, f, h => K f h
  | o :: rest, kn, f, h => stepGuard P ops still o kn f h fun kn' f' h' => execOps P ops still K rest kn' f' h'

/-- an operation whose value hangs on its operands alone -/
def heapFree : Op → Bool
  | .move _ => true
  | .assign _ => true
  | .pick _ _ _ => true
  | .nilCheck _ => true
  | .binOp _ _ _ _ _ => true
  | .unOp _ _ _ => true
  | .convert _ _ _ => true
  | .makeInterface _ _ => true
  | .makeFunc _ _ _ => true
  | .fieldAddr _ _ _ => true
  | .field _ _ _ => true
  | .indexAddr _ _ _ => true
  | .index _ _ _ => true
  | .slice _ _ _ _ _ => true
  | .extract _ _ => true
  | .build _ _ => true
  | _ => false

def anyStep (P : Program) (ops : List Oper) (f : F) (h : H) (kn : List (Nat × Bool)) (j : Nat) (K : List (Nat × Bool) → F → H → Prop) : Prop :=
  match ops[j]? with
  | none => False
  | some o => stepGuard P ops false o kn f h K

def pureAt (ops : List Oper) (L : Array Bool) (j : Nat) : Bool :=
  match ops[j]? with
  | none => false
  | some o => heapFree o.op && (o.guard.isNone && Region.free .any ops.toArray L j)

def allR : List Nat → (Nat → Prop) → Prop
  | [], _ => True
  | [j], p => p j
  | j :: k :: l, p => p j ∧ allR (k :: l) p

/-- a step that may be taken ahead of the others: free of them, and by its operands alone, or left out by the branch taken -/
def pureAt2 (ops : List Oper) (L : Array Bool) (kn : List (Nat × Bool)) (j : Nat) : Bool :=
  match ops[j]? with
  | none => false
  | some o => Region.free .any ops.toArray L j && (match o.guard with
    | none => heapFree o.op
    | some (i, b) => (match dstOf ops i with
      | none => true
      | some s => (match knGet kn s with
        | some t => cond (t == b) (heapFree o.op) true
        | none => heapFree o.op)))

def execAny (P : Program) (ops : List Oper) (p : Array Bool → List (Nat × Bool) → Nat → Bool) (K : F → H → Prop) : Nat → Array Bool → List (Nat × Bool) → F → H → Prop
  | 0, L, _, f, h => (match Region.ready .any ops.toArray L with | [] => K f h | _ => False)
  | n + 1, L, kn, f, h => (match Region.ready .any ops.toArray L with
    | [] => K f h
    | i :: is => (match (i :: is).find? (p L kn) with
      | some j => anyStep P ops f h kn j fun kn' f' h' => execAny P ops p K n (L.setIfInBounds j true) kn' f' h'
      | none => allR (i :: is) fun j => anyStep P ops f h kn j fun kn' f' h' => execAny P ops p K n (L.setIfInBounds j true) kn' f' h'))

/-! several new rows at once: whatever their order -/

def isNew : Op → Bool
  | .alloc _ => true
  | .box _ _ => true
  | .buildSlice _ _ _ => true
  | .makeSlice _ _ _ => true
  | _ => false

def newArgs : Op → List Operand
  | .box _ x => [x]
  | .buildSlice _ _ ps => ps.toList.map (·.2)
  | .makeSlice _ l c => [l, c]
  | _ => []

def argIn (ds : List Nat) : Operand → Bool
  | .tmp t => memB t ds
  | _ => false

def setAll (L : Array Bool) : List Nat → Array Bool
  | [] => L
  | j :: js => setAll (L.setIfInBounds j true) js

def dAt (ops : List Oper) (j : Nat) : Nat :=
  match ops[j]? with
  | some o => o.dst.getD 0
  | none => 0

def newAt (ops : List Oper) (ds : List Nat) (j : Nat) : Bool :=
  match ops[j]? with
  | some o => isNew o.op && (o.guard.isNone && (o.dst.isSome && (newArgs o.op).all fun x => !(argIn ds x)))
  | none => false

def nodupB : List Nat → Bool
  | [] => true
  | d :: l => !(memB d l) && nodupB l

def onlyB : List Nat → Nat → Bool
  | [k], j => Nat.beq k j
  | _, _ => false

def batchB (ops : List Oper) (L : Array Bool) (B : List Nat) : Bool :=
  B.all (newAt ops (B.map (dAt ops))) && (nodupB (B.map (dAt ops)) && B.all fun j => onlyB (Region.ready .any ops.toArray (setAll L (B.filter fun k => !(Nat.beq k j)))) j)

def execAny3 (P : Program) (ops : List Oper) (K : F → H → Prop) : Nat → List Nat → Array Bool → List (Nat × Bool) → F → H → Prop
  | 0, pend, L, _, f, h => (match pend, Region.ready .any ops.toArray L with | [], [] => K f h | _, _ => False)
  | n + 1, j :: js, L, kn, f, h => anyStep P ops f h kn j fun kn' f' h' => execAny3 P ops K n js (L.setIfInBounds j true) kn' f' h'
  | n + 1, [], L, kn, f, h => (match Region.ready .any ops.toArray L with
    | [] => K f h
    | i :: is => (match (i :: is).find? (pureAt2 ops L kn) with
      | some j => anyStep P ops f h kn j fun kn' f' h' => execAny3 P ops K n [] (L.setIfInBounds j true) kn' f' h'
      | none => cond (Nat.ble 2 (i :: is).length && (Nat.ble (i :: is).length (n + 1) && batchB ops L (i :: is)))
        (anyStep P ops f h kn i fun kn' f' h' => execAny3 P ops K n is (L.setIfInBounds i true) kn' f' h')
        (allR (i :: is) fun j => anyStep P ops f h kn j fun kn' f' h' => execAny3 P ops K n [] (L.setIfInBounds j true) kn' f' h')))

/-! one order for all: what only reads comes first, then calls that leave rows as they are, then new rows, then the rest -/

def isReadOp : Op → Bool
  | .load _ _ => true
  | .call c => (match c.callee with | .builtin .len => true | .builtin .min => true | .builtin .max => true | _ => false)
  | _ => false

def isCallV : Op → Bool
  | .call c => (match c.callee with | .value _ => true | _ => false)
  | _ => false

/-- of each operation the set of those ahead of it, as bits -/
def ancGo (acc : List Nat) : List Oper → List Nat
  | [] => acc
  | o :: l => ancGo (acc ++ [o.after.toList.foldl (fun m e => cond (Region.binds .any e) (Nat.lor m (Nat.lor (2 ^ e.on) (acc.getD e.on 0))) m) 0]) l
def ancs (ops : List Oper) : List Nat := ancGo [] ops

def ahead (an : List Nat) (i j : Nat) : Bool := Nat.testBit (an.getD j 0) i

/-- kinds: 0 a value of its operands alone, 1 what only reads, 2 a call beside which others may run, 3 a new row, 4 the rest -/
def kindB (ops : List Oper) (an : List Nat) (j : Nat) : Nat :=
  match ops[j]? with
  | none => 4
  | some o => cond (heapFree o.op) 0 (cond (isReadOp o.op) 1 (cond (isNew o.op) 3 (cond (isCallV o.op && (List.range ops.length).any fun k => !(Nat.beq k j) && (!(ahead an k j) && (!(ahead an j k) && (match ops[k]? with | some o' => !(heapFree o'.op) | none => false)))) 2 4)))

def pickB (kd : List Nat) (rs : List Nat) : Option Nat :=
  match rs.find? (fun j => Nat.beq (kd.getD j 4) 0) with
  | some j => some j
  | none => (match rs.find? (fun j => Nat.beq (kd.getD j 4) 1) with
    | some j => some j
    | none => (match rs.find? (fun j => Nat.beq (kd.getD j 4) 2) with
      | some j => some j
      | none => (match rs.find? (fun j => Nat.beq (kd.getD j 4) 3) with
        | some j => some j
        | none => rs.head?)))

def canonGo (ops : List Oper) (kd : List Nat) : Nat → Array Bool → List Nat
  | 0, _ => []
  | n + 1, L => (match pickB kd (Region.ready .any ops.toArray L) with
    | some j => j :: canonGo ops kd n (L.setIfInBounds j true)
    | none => [])
def kinds (ops : List Oper) : List Nat := (List.range ops.length).map (kindB ops (ancs ops))
def canon (ops : List Oper) : List Nat := canonGo ops (kinds ops) ops.length (Array.replicate ops.length false)

def allocB (P : Program) (ops : List Oper) (j : Nat) : Bool :=
  match ops[j]? with
  | some o => (match o.op with | .alloc t => ((P.info? t).bind (·.zero)).isSome | _ => false)
  | none => false

def pairB (P : Program) (ops : List Oper) (an kd : List Nat) (i j : Nat) : Bool :=
  ahead an i j ||
    ((match ops[i]?, ops[j]? with | some x, some y => x.apart ops.toArray y && y.apart ops.toArray x | _, _ => false) &&
    (match kd.getD i 4, kd.getD j 4 with
      | 0, _ => true
      | 1, 0 => true
      | 1, 1 => true
      | 1, 2 => true
      | 1, 3 => true
      | 2, 3 => allocB P ops j
      | 3, 3 => true
      | 3, 0 => true
      | _, _ => false))

def pairsB (P : Program) (ops : List Oper) (an kd : List Nat) : List Nat → Bool
  | [] => true
  | i :: l => (l.all fun j => pairB P ops an kd i j) && pairsB P ops an kd l

def topoB (ops : List Oper) (seen : List Nat) : List Nat → Bool
  | [] => true
  | j :: l => (match ops[j]? with | some o => o.after.toList.all (fun e => !(Region.binds .any e) || memB e.on seen) | none => false) && topoB ops (j :: seen) l

def lexOK (P : Program) (ops : List Oper) : Bool :=
  nodupB (canon ops) && ((List.range ops.length).all (fun j => memB j (canon ops)) && (topoB ops [] (canon ops) && pairsB P ops (ancs ops) (kinds ops) (canon ops)))

def OwnExt (h h' : H) : Prop := ∃ L', h'.own.Perm (h.own ++ L')

def opVCq (P : Program) (f : F) (h : H) (o : Oper) (K : Value → H → Prop) : Prop :=
  match o.op with
  | .call c => (match callee f c with
    | some (n, args) => cond (bodied P n) (SemCall P n args.toArray h fun v h' => OwnExt h h' ∧ resVC P o.type v fun v => K v h') False
    | none => False)
  | _ => False

def stepOpQ (P : Program) (q : Bool) (o : Oper) (kn : List (Nat × Bool)) (f : F) (h : H) (K : List (Nat × Bool) → F → H → Prop) : Prop :=
  match knOf kn o.op, o.dst with
  | some t, some d => K ((d, t) :: knDel kn (some d)) (upd f d (.bool t)) h
  | _, _ => cond q (opVCq P f h o fun v h' => K (knDel kn o.dst) (put f o.dst v) h') (opVC P false f h o fun v h' => K (knDel kn o.dst) (put f o.dst v) h')

def stepGuardQ (P : Program) (ops : List Oper) (q : Bool) (o : Oper) (kn : List (Nat × Bool)) (f : F) (h : H) (K : List (Nat × Bool) → F → H → Prop) : Prop :=
  match o.guard with
  | none => stepOpQ P q o kn f h K
  | some (j, b) => match dstOf ops j with
    | none => K (knDel kn o.dst) (put f o.dst undef) h
    | some s => match knGet kn s with
      | some t => cond (t == b) (stepOpQ P q o kn f h K) (K (knDel kn o.dst) (put f o.dst undef) h)
      | none => match f s with
        | .bool t => VIf t
            (cond (true == b) (stepOpQ P q o ((s, true) :: kn) (upd f s (.bool true)) h K) (K (knDel ((s, true) :: kn) o.dst) (put (upd f s (.bool true)) o.dst undef) h))
            (cond (false == b) (stepOpQ P q o ((s, false) :: kn) (upd f s (.bool false)) h K) (K (knDel ((s, false) :: kn) o.dst) (put (upd f s (.bool false)) o.dst undef) h))
        | .tuple _ => K (knDel kn o.dst) (put f o.dst undef) h
        | _ => False

def execLex (P : Program) (ops : List Oper) (kd : List Nat) (K : F → H → Prop) : List Nat → List (Nat × Bool) → F → H → Prop
  | [], _, f, h => K f h
  | j :: l, kn, f, h => (match ops[j]? with
    | none => False
    | some o => stepGuardQ P ops (Nat.beq (kd.getD j 4) 2) o kn f h fun kn' f' h' => execLex P ops kd K l kn' f' h')

def regionVC (P : Program) (ops : List Oper) (draw : Bool) (tail : Option Nat) (K : F → H → Prop) (f : F) (h : H) : Prop :=
  cond draw
    (match tail with
      | none => cond (Region.lexB .any ops.toArray) (execOps P ops true K ops [] f h) False
      | some n => cond (Nat.beq n 1000000)
        (cond (Region.noSelect ops.toArray) (execAny P ops (fun L _ => pureAt ops L) K ops.length (Array.replicate ops.length false) [] f h) False)
        (cond (Nat.beq n 1000003)
        (cond (Region.noSelect ops.toArray && lexOK P ops) (execLex P ops (kinds ops) K (canon ops) [] f h) False)
        (cond (Nat.beq n 1000002)
        (cond (Region.noSelect ops.toArray) (execAny3 P ops K ops.length [] (Array.replicate ops.length false) [] f h) False)
        (cond (Nat.beq n 1000001)
        (cond (Region.noSelect ops.toArray) (execAny P ops (pureAt2 ops) K ops.length (Array.replicate ops.length false) [] f h) False)
        (cond (Region.lexTailB .any ops.toArray n) (execOps P ops true (fun f' h' => execOps P ops false K (ops.drop n) [] f' h') (ops.take n) [] f h) False)))))
    (execOps P ops false K ops [] f h)

/-! ### code -/

inductive Hint where
  | leaf
  | node (a b : Hint)
  | join (S : Sl) (g : Hint)
  | loop (S : Sl) (g : Hint)
  | tail (n : Nat)
  | any
  | any2
  | any3
  | lex

def Hint.l : Hint → Hint
  | .node a _ => a
  | _ => .leaf
def Hint.r : Hint → Hint
  | .node _ b => b
  | _ => .leaf
def Hint.tl : Hint → Option Nat
  | .tail n => some n
  | .any => some 1000000
  | .any2 => some 1000001
  | .any3 => some 1000002
  | .lex => some 1000003
  | _ => none

def dsts : List Oper → List Nat
  | [] => []
  | o :: l => match o.dst with
    | some d => d :: dsts l
    | none => dsts l

def writes : Code → List Nat
  | .region _ ops _ => dsts ops.toList
  | .seq a b => writes a ++ writes b
  | .cond _ a b => writes a ++ writes b
  | .block _ c => writes c
  | .loop c => writes c
  | _ => []

def wrap (g : Hint) (W : List Nat) (Q : Exit → F → H → Prop) (f : F) (_ : H) (body : Hint → (Exit → F → H → Prop) → Prop) : Prop :=
  match g with
  | .join S g' => ∃ R : RelTy S, body g' (fun e f' h' => match e with | .normal => appS S R f' h' | e => Q e f' h') ∧
      ∀ g2 : F, allS S R (merge f W g2) fun f' h' => Q .normal f' h'
  | g => body g Q

def exec (P : Program) : Code → Hint → (Exit → F → H → Prop) → F → H → Prop
  | .skip, _, Q, f, h => Q .normal f h
  | .ret, _, Q, f, h => Q .ret f h
  | .exit id, _, Q, f, h => Q (.exit id) f h
  | .region _ ops draw, g, Q, f, h => wrap g (dsts ops.toList) Q f h fun g Q => regionVC P ops.toList draw g.tl (Q .normal) f h
  | .seq a b, g, Q, f, h => wrap g (writes a ++ writes b) Q f h fun g Q =>
      exec P a g.l (fun e f' h' => match e with | .normal => exec P b g.r Q f' h' | e => Q e f' h') f h
  | .cond c a b, g, Q, f, h => wrap g (writes a ++ writes b) Q f h fun g Q =>
      (match ev f c with | .bool t => VIf t (exec P a g.l Q f h) (exec P b g.r Q f h) | _ => False)
  | .block id c, g, Q, f, h => wrap g (writes c) Q f h fun g Q =>
      exec P c g.l (fun e f' h' => match e with | .exit id' => cond (Nat.beq id' id) (Q .normal f' h') (Q (.exit id') f' h') | e => Q e f' h') f h
  | .loop c, g, Q, f, h => (match g with
      | .loop S g' => ∃ I : Nat → RelTy S, (∃ n, appS S (I n) f h) ∧
          ∀ (n : Nat) (g2 : F), allS S (I n) (merge f (writes c) g2) fun f' h' =>
            exec P c g' (fun e f2 h2 => match e with | .normal => ∃ m, m < n ∧ appS S (I m) f2 h2 | e => Q e f2 h2) f' h'
      | _ => False)
  | _, _, _, _, _ => False

/-- the value that a function hands back -/
def resList (P : Program) (f : F) (h : H) : List ResultVar → (List Value → Prop) → Prop
  | [], K => K []
  | .tmp t :: l, K => resList P f h l fun vs => K (f t :: vs)
  | .cell a t :: l, K => (match f a with
    | .pointer (some a) => cond (P.underlying t).isSome (getVC P t (fun j v => h.rd (a.add j) v) fun v => resList P f h l fun vs => K (v :: vs)) False
    | _ => False)

def one : List Value → Value
  | [v] => v
  | vs => .tuple vs.toArray

def VRet (h : H) (v : Value) (post : Value → H → Prop) : Prop := ∃ h2, Gh h h2 ∧ post v h2

def retQ (P : Program) (fn : Func) (post : Value → H → Prop) : Exit → F → H → Prop
  | .normal, f, h => resList P f h fn.results.toList fun vs => VRet h (one vs) post
  | .ret, f, h => resList P f h fn.results.toList fun vs => VRet h (one vs) post
  | _, _, _ => False

def F0 (args : List Value) : F := fun t => args.getD t undef

end Go.Eng
