/-
  The executor: the code in short form, how the model's code is brought into it, and what is to be shown of it (the conditions, one behind the other).
-/
import Derived.Test.YtiaceoomiflgcaaVcgA
namespace Go.V

/-- Operations that only reckon, on data of other kinds than whole numbers. -/
inductive Pu where
  | fcmp (op : BinOp)
  | i2f (k : FloatKind)
  | f2i (k : IntKind)
  | ceq (neg : Bool)
  | scmp (op : BinOp)
  | scat
  | sidx
  | mn
  | mx

/-- Of what kind the result is. -/
inductive PK where
  | b
  | i (k : IntKind)
  | f (k : FloatKind)
  | s

def isCmp : BinOp → Bool
  | .eql | .neq | .lss | .leq | .gtr | .geq => true
  | _ => false

def fkEq : FloatKind → FloatKind → Bool
  | .f32, .f32 => true
  | .f64, .f64 => true
  | _, _ => false

def ikEq : IntKind → IntKind → Bool
  | .i8, .i8 => true
  | .i16, .i16 => true
  | .i32, .i32 => true
  | .i64, .i64 => true
  | .u8, .u8 => true
  | .u16, .u16 => true
  | .u32, .u32 => true
  | .u64, .u64 => true
  | _, _ => false

def puT (p : Pu) (ds : List DV) : Option PK :=
  match p with
  | .fcmp op => (match ds with | [.flt k _, .flt k' _] => (match isCmp op && fkEq k k' with | true => some .b | false => none) | _ => none)
  | .i2f k => (match ds with | [.int _ _] => some (.f k) | _ => none)
  | .f2i k => (match ds with | [.flt _ _] => some (.i k) | _ => none)
  | .ceq _ => (match ds with | [.cpx k _ _, .cpx k' _ _] => (match fkEq k k' with | true => some .b | false => none) | _ => none)
  | .scmp op => (match ds with | [.str _, .str _] => (match isCmp op with | true => some .b | false => none) | _ => none)
  | .scat => (match ds with | [.str _, .str _] => some .s | _ => none)
  | .sidx => (match ds with | [.str _, .int _ _] => some (.i .u8) | _ => none)
  | .mn => (match ds with | [.int k _, .int k' _] => (match ikEq k k' with | true => some (.i k) | false => none) | _ => none)
  | .mx => (match ds with | [.int k _, .int k' _] => (match ikEq k k' with | true => some (.i k) | false => none) | _ => none)

/-- Arithmetic, under a name: the executor never looks into it. -/
structure Ar where
  bin : BinOp → IntKind → Int → Int → Int
  cmp : BinOp → Int → Int → Bool
  un : UnOp → IntKind → Int → Int
  conv : IntKind → Int → Int
  bnot : Bool → Bool
  beq : Bool → Bool → Bool
  band : Bool → Bool → Bool
  sel : Bool → Bool → Bool → Bool
  isel : Bool → Int → Int → Int
  ofN : Nat → Int
  toN : Int → Nat
  inb : Int → Nat → Prop
  nz : Int → Prop
  nneg : Int → Prop
  lt : Nat → Nat → Prop
  le : Nat → Nat → Prop
  room : Nat → Nat → Prop
  slb : Int → Int → Int → Int → Prop
  add : Nat → Nat → Nat
  sub : Nat → Nat → Nat
  sbin : ByteArray → ByteArray → ByteArray
  scmp : BinOp → ByteArray → ByteArray → Bool
  slen : ByteArray → Nat
  sget : ByteArray → Nat → Int
  ssub : ByteArray → Nat → Nat → ByteArray
  addk : (List Int → Bool) → List Int → List Int → Bool
  pc : Pu → List DV → Prop
  pb : Pu → List DV → Bool
  pi : Pu → List DV → Int
  pf : Pu → List DV → Nat
  ps : Pu → List DV → ByteArray
  mkok : Int → Int → Nat → Prop
  min : Nat → Nat → Nat
  ig : List Int → Nat → Int
  aeq : List SV → List SV → Bool

def addKey (has : List Int → Bool) (ks : List Int) : List Int → Bool := fun l => if l = ks then true else has l

def binI (op : BinOp) (k : IntKind) (x y : Int) : Int :=
  match op with
  | .add => k.wrap (x + y)
  | .sub => k.wrap (x - y)
  | .mul => k.wrap (x * y)
  | .quo => k.wrap (x.tdiv y)
  | .rem => x.tmod y
  | .and => k.wrap (BitVec.ofInt k.bits x &&& BitVec.ofInt k.bits y).toNat
  | .or => k.wrap (BitVec.ofInt k.bits x ||| BitVec.ofInt k.bits y).toNat
  | .xor => k.wrap (BitVec.ofInt k.bits x ^^^ BitVec.ofInt k.bits y).toNat
  | .andNot => k.wrap (BitVec.ofInt k.bits x &&& ~~~(BitVec.ofInt k.bits y)).toNat
  | .shl => k.wrap (x * 2 ^ (min y.toNat k.bits))
  | .shr => x.fdiv (2 ^ (min y.toNat k.bits))
  | _ => 0

def cmpI (op : BinOp) (x y : Int) : Bool :=
  match op with
  | .eql => x == y
  | .neq => x != y
  | .lss => decide (x < y)
  | .leq => decide (x ≤ y)
  | .gtr => decide (x > y)
  | .geq => decide (x ≥ y)
  | _ => false

def unI (op : UnOp) (k : IntKind) (n : Int) : Int :=
  match op with
  | .neg => k.wrap (0 - n)
  | .xor => k.wrap (BitVec.ofInt k.bits (if k.signed then -1 else k.max) ^^^ BitVec.ofInt k.bits n).toNat
  | _ => 0

def cmpS (op : BinOp) (x y : ByteArray) : Bool :=
  match op with
  | .eql => x.toList == y.toList
  | .neq => !(x.toList == y.toList)
  | .lss => Op.bytesLess x.toList y.toList
  | .leq => Op.bytesLess x.toList y.toList || x.toList == y.toList
  | .gtr => !(Op.bytesLess x.toList y.toList || x.toList == y.toList)
  | .geq => !(Op.bytesLess x.toList y.toList)
  | _ => false

def fcmpF (op : BinOp) (k : FloatKind) (x y : Nat) : Bool :=
  match op with
  | .eql => k.format.order x y == some .eq
  | .neq => k.format.order x y != some .eq
  | .lss => k.format.order x y == some .lt
  | .leq => k.format.order x y == some .lt || k.format.order x y == some .eq
  | .gtr => k.format.order x y == some .gt
  | .geq => k.format.order x y == some .gt || k.format.order x y == some .eq
  | _ => false

def ceqF (k : FloatKind) (a b c d : Nat) : Bool := fcmpF .eql k a c && fcmpF .eql k b d

/-- A float as a whole number of a kind. -/
def f2iF (k : FloatKind) (x : Nat) : Option Int := (k.decode x).toInt .zero

def puC : Pu → List DV → Prop
  | .f2i k, [.flt f x] => ∃ n, f2iF f x = some n ∧ k.min ≤ n ∧ n ≤ k.max
  | .sidx, [.str s, .int _ i] => 0 ≤ i ∧ i < (s.size : Int)
  | .scat, [.str a, .str b] => ((a.size + b.size : Nat) : Int) ≤ 9223372036854775807
  | _, _ => True

def puB : Pu → List DV → Bool
  | .fcmp op, [.flt k x, .flt _ y] => fcmpF op k x y
  | .ceq false, [.cpx k a b, .cpx _ c d] => ceqF k a b c d
  | .ceq true, [.cpx k a b, .cpx _ c d] => !(ceqF k a b c d)
  | .scmp op, [.str a, .str b] => cmpS op a b
  | _, _ => false

def puI : Pu → List DV → Int
  | .f2i _, [.flt f x] => (f2iF f x).getD 0
  | .sidx, [.str s, .int _ i] => ((s.data[i.toNat]?).getD 0).toNat
  | .mn, [.int _ x, .int _ y] => if y < x then y else x
  | .mx, [.int _ x, .int _ y] => if x < y then y else x
  | _, _ => 0

def puF : Pu → List DV → Nat
  | .i2f k, [.int _ n] => k.nearest n
  | _, _ => 0

def puS : Pu → List DV → ByteArray
  | .scat, [.str a, .str b] => a ++ b
  | _, _ => ByteArray.empty

/-- Two values of data, cell by cell. -/
def dvEq : SV → SV → Bool
  | .dv (.int _ a), .dv (.int _ b) => a == b
  | .dv (.bool a), .dv (.bool b) => a == b
  | .dv (.str a), .dv (.str b) => a.toList == b.toList
  | _, _ => false

def dvEqs : List SV → List SV → Bool
  | [], [] => true
  | a :: l, b :: r => dvEq a b && dvEqs l r
  | _, _ => false

def std : Ar where
  bin := binI
  cmp := cmpI
  un := unI
  conv k n := k.wrap n
  bnot b := !b
  beq a b := a == b
  band a b := a && b
  sel b x y := if b then x else y
  isel b x y := if b then x else y
  ofN n := n
  toN i := i.toNat
  inb i n := 0 ≤ i ∧ i < n
  nz y := y ≠ 0
  nneg y := 0 ≤ y
  lt a b := a < b
  le a b := a ≤ b
  room n bytes := n ≤ maxN ∧ n * bytes ≤ 140737488355328
  slb l h m c := 0 ≤ l ∧ l ≤ h ∧ h ≤ m ∧ m ≤ c
  add a b := a + b
  sub a b := a - b
  sbin x y := x ++ y
  scmp := cmpS
  slen s := s.size
  sget s i := ((s.data[i]?).getD 0).toNat
  ssub s l h := s.extract l h
  addk := addKey
  pc := puC
  pb := puB
  pi := puI
  pf := puF
  ps := puS
  mkok n c b := n = c ∧ 0 ≤ n ∧ n ≤ (maxN : Int) ∧ n * (b : Int) ≤ 140737488355328
  min a b := Nat.min a b
  ig l i := l.getD i 0
  aeq := dvEqs

/-! ### The short form -/
inductive X where
  | t (i : Nat)
  | c (v : SV)

/-- Of what kind the two sides of '==' are. -/
inductive EK where
  | bool | ptr | slc | fn | ifc

inductive Ins where
  | mov (x : X)
  | pick (c a b : X)
  | bin (op : BinOp) (x y : X)
  | eqn (k : EK) (neg : Bool) (x y : X)
  | un (op : UnOp) (x : X)
  | conv (k : IntKind) (x : X)
  | fldA (off : Nat) (x : X)
  | idxA (n sz : Nat) (x i : X)
  | idxS (sz : Nat) (x i : X)
  | ld (n : Option Nat) (x : X)
  | st (n : Nat) (x v : X)
  | new (sh : List (Option (Nat × Nat))) (z : List DV)
  | box (n : Nat) (sh : List (Option (Nat × Nat))) (x : X)
  | build (z : List DV) (parts : List (Nat × Nat × X))
  | mkS (sz len : Nat) (z : List DV) (parts : List (Nat × Nat × X))
  | fld (off : Nat) (n : Option Nat) (x : X)
  | ext (x : X) (i : Nat)
  | len (str : Bool) (x : X)
  | app (sz bytes : Nat) (x y : X)
  | nchk (x : X)
  | mki (t : TypeId) (x : X)
  | mkf (f : FuncId) (caps : List X)
  | mkb (f : FuncId) (first : List X)
  | mkm (m : String) (x : X)
  | idxV (n : Nat) (x i : X)
  | call (f : FuncId) (args : List X)
  | callv (f : X) (args : List X)
  | inv (r : X) (m : String) (args : List X)
  | slc (sz : Nat) (x : X) (lo hi mx : Option X)
  | ssl (x : X) (lo hi : Option X)
  | mkM (n : Nat)
  | mlk (t : TypeId) (n : Nat) (x k : X)
  | mup (t : TypeId) (n : Nat) (m k v : X)
  | pu (p : Pu) (xs : List X)
  | cpl (x y : X)
  | cpart (im : Bool) (x : X)
  | mks (sz b : Nat) (z : List DV) (n c : X)
  | cpy (sz : Nat) (x y : X)
  | clr (sz : Nat) (z : List DV) (x : X)
  | eqa (t : TypeId) (n : Nat) (neg : Bool) (x y : X)
  | tas (t : TypeId) (z : DV) (ok : Bool) (x : X)
  | other

structure Op1 where
  d : Option Nat
  i : Ins
  g : Option (Option Nat × Bool)

@[reducible] def o1 (d : Nat) (i : Ins) : Op1 := ⟨some d, i, none⟩
@[reducible] def o0 (i : Ins) : Op1 := ⟨none, i, none⟩

/-! ### The state's parts -/
def lset {α : Type} : List α → Nat → α → List α
  | [], _, _ => []
  | _ :: l, 0, v => v :: l
  | x :: l, n + 1, v => x :: lset l n v

def lget {α : Type} : List α → Nat → Option α
  | [], _ => none
  | x :: _, 0 => some x
  | _ :: l, n + 1 => lget l n

variable {O : Type}

def St.ev (s : St O) : X → SV
  | .t i => (match lget s.env i with | some v => v | none => .junk)
  | .c v => v

def St.put (s : St O) (d : Option Nat) (v : SV) : St O :=
  match d with
  | some d => { s with env := lset s.env d v }
  | none => s

def St.mset (s : St O) (h : Nat) (c : Chunk O) : St O := { s with mem := lset s.mem h c }
def St.madd (s : St O) (c : Chunk O) : St O := { s with mem := s.mem ++ [c] }

/-- The cell at a place. -/
def segGet : List Seg → Nat → Option SV
  | [], _ => none
  | .one v :: _, 0 => some v
  | .one _ :: r, n + 1 => segGet r n
  | .arr n sz at_ :: r, o => if o < n * sz then some (at_ (o / sz) (o % sz)) else segGet r (o - n * sz)

def segSet : List Seg → Nat → SV → Option (List Seg)
  | [], _, _ => none
  | .one _ :: r, 0, v => some (.one v :: r)
  | .one x :: r, n + 1, v => (match segSet r n v with | some l => some (.one x :: l) | none => none)
  | .arr n sz at_ :: r, o, v =>
    if o < n * sz then some (.arr n sz (fun i f => if i = o / sz ∧ f = o % sz then v else at_ i f) :: r)
    else (match segSet r (o - n * sz) v with | some l => some (.arr n sz at_ :: l) | none => none)

def segTake (ss : List Seg) : (o n : Nat) → Option (List SV)
  | _, 0 => some []
  | o, n + 1 => (match segGet ss o with
    | some v => (match segTake ss (o + 1) n with | some l => some (v :: l) | none => none)
    | none => none)

def segPut : List Seg → Nat → List SV → Option (List Seg)
  | ss, _, [] => some ss
  | ss, o, v :: r => (match segSet ss o v with | some ss' => segPut ss' (o + 1) r | none => none)

/-- The row that begins just at a place. -/
def segArr : List Seg → Nat → Option (Nat × Nat × (Nat → Nat → SV))
  | [], _ => none
  | .arr n sz at_ :: _, 0 => some (n, sz, at_)
  | .one _ :: r, n + 1 => segArr r n
  | .arr n sz _ :: r, o + 1 => if n * sz ≤ o + 1 then segArr r (o + 1 - n * sz) else none
  | .one _ :: _, 0 => none

def segArrSet : List Seg → Nat → (Nat → Nat → SV) → List Seg
  | [], _, _ => []
  | .arr n sz _ :: r, 0, at_ => .arr n sz at_ :: r
  | .one x :: r, n + 1, at_ => .one x :: segArrSet r n at_
  | .arr n sz a :: r, o + 1, at_ => .arr n sz a :: segArrSet r (o + 1 - n * sz) at_
  | .one x :: r, 0, _ => .one x :: r

/-- Cells by a shape: none: one cell; (n, sz): a row. -/
def shaped : List (Option (Nat × Nat)) → List SV → List Seg
  | [], _ => []
  | none :: sh, v :: vs => .one v :: shaped sh vs
  | none :: _, [] => []
  | some (n, sz) :: sh, vs => .arr n sz (fun i f => (match lget vs (i * sz + f) with | some v => v | none => .junk)) :: shaped sh (vs.drop (n * sz))

def SV.cell : SV → Bool
  | .junk | .agg _ | .tup _ => false
  | _ => true

def SV.cells : SV → Option (List SV)
  | .junk | .tup _ => none
  | .agg vs => some vs
  | v => some [v]

def allCells : List SV → Bool
  | [] => true
  | v :: r => v.cell && allCells r

def dvs : List DV → List SV
  | [] => []
  | d :: r => .dv d :: dvs r

def lputs : List SV → Nat → List SV → List SV
  | l, _, [] => l
  | l, o, v :: r => lputs (lset l o v) (o + 1) r

def takeAt (at_ : Nat → Nat → DV) (i : Nat) : (f n : Nat) → List SV
  | _, 0 => []
  | f, n + 1 => .dv (at_ i f) :: takeAt at_ i (f + 1) n

def takeAtS (at_ : Nat → Nat → SV) (i : Nat) : (f n : Nat) → List SV
  | _, 0 => []
  | f, n + 1 => at_ i f :: takeAtS at_ i (f + 1) n

end Go.V
