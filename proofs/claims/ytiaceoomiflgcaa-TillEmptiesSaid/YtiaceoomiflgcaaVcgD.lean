/-
  The conditions of an operation.
-/
import Derived.Test.YtiaceoomiflgcaaVcgC
import Derived.WideKeyMaps2
import Derived.DeepKeys4
namespace Go.V
variable {O : Type} [Objs O]

theorem ikEq_eq {a b : IntKind} (h : ikEq a b = true) : a = b := by cases a <;> cases b <;> simp_all [ikEq]

inductive BK where
  | arith | div | shift | cmp

def binK : BinOp → BK
  | .add | .sub | .mul | .and | .or | .xor | .andNot => .arith
  | .quo | .rem => .div
  | .shl | .shr => .shift
  | _ => .cmp

def vbin (A : Ar) (op : BinOp) (k : IntKind) (a b : Int) (K : SV → Prop) : Prop :=
  match binK op with
  | .arith => K (.dv (.int k (A.bin op k a b)))
  | .div => Chk (A.nz b) fun _ => K (.dv (.int k (A.bin op k a b)))
  | .shift => Chk (A.nneg b) fun _ => K (.dv (.int k (A.bin op k a b)))
  | .cmp => K (.dv (.bool (A.cmp op a b)))

def isShift : BinOp → Bool
  | .shl | .shr => true
  | _ => false

def vnot (A : Ar) (neg : Bool) (b : Bool) : Bool :=
  match neg with
  | true => A.bnot b
  | false => b

/-- '==' on what is no number: what is told, or none where the executor does not know. -/
inductive EQ where
  | known (b : Bool)
  | bools (a b : Bool)
  | some (p : Bool → Prop)
  | no

def isLitNil : X → Bool
  | .c (.dv .nili) => true
  | _ => false

def veqn (k : EK) (n : Nat) (lit : Bool) (x y : SV) : EQ :=
  match k with
  | .bool => (match x, y with
    | .dv (.bool a), .dv (.bool b) => .bools a b
    | _, _ => .no)
  | .ptr => (match x, y with
    | .dv .nilp, .dv .nilp => .known true
    | .ptr .., .dv .nilp | .pat .., .dv .nilp | .pseq .., .dv .nilp => .known false
    | .dv .nilp, .ptr .. | .dv .nilp, .pat .. | .dv .nilp, .pseq .. => .known false
    | _, _ => .no)
  | .fn => (match x, y with
    | .dv .nilf, .dv .nilf => .known true
    | .fn .., .dv .nilf | .dv .nilf, .fn .. => .known false
    | .bfn .., .dv .nilf | .dv .nilf, .bfn .. => .known false
    | _, _ => .no)
  | .ifc => (match x, y with
    | .ifc .., .dv .nili | .dv .nili, .ifc .. => .known false
    | .dv .nili, .dv .nili => (match lit with | true => .known true | false => .no)
    | _, _ => .no)
  | .slc => (match x, y with
    | .dv .nils, .dv .nils => .known true
    | .dv .emp, .dv .nils | .dv .nils, .dv .emp => .some fun _ => True
    | .dv (.seq n _ _), .dv .nils | .dv .nils, .dv (.seq n _ _) => .some fun b => 0 < n → b = false
    | .vec _, .dv .nils | .dv .nils, .vec _ => .some fun b => 0 < n → b = false
    | .win .., .dv .nils | .dv .nils, .win .. => .some fun b => 0 < n → b = false
    | _, _ => .no)

/-- The length of the vector in question, if one is. -/
def vecLen (s : St O) : SV → Nat
  | .vec h => (match lget s.mem h with | some (.vec n _ _) => n | _ => 0)
  | .win _ _ n _ _ => n
  | _ => 0

def hasVec (s : St O) : SV → Bool
  | .vec h => (match lget s.mem h with | some (.vec _ _ _) => true | _ => false)
  | _ => true

def updRow (at_ : Nat → Nat → SV) (i f : Nat) (l : List SV) : Nat → Nat → SV :=
  fun j g => if j = i then (if g < f then at_ j g else match lget l (g - f) with | some v => v | none => at_ j g) else at_ j g

def partsV (s : St O) : List (Nat × Nat × X) → List SV → Option (List SV)
  | [], l => some l
  | (o, n, x) :: r, l => (match (s.ev x).cells with
    | some cs => if cs.length = n ∧ o + n ≤ l.length then partsV s r (lputs l o cs) else none
    | none => none)

def repl (z : List SV) : Nat → List SV
  | 0 => []
  | n + 1 => z ++ repl z n

def listAt (sz : Nat) (l : List SV) : Nat → Nat → SV :=
  fun i f => match lget l (i * sz + f) with | some v => v | none => .junk

/-- The result of an append of m elements to a vector of n. -/
def appAt (A : Ar) (n : Nat) (at_ bt : Nat → Nat → SV) : Nat → Nat → SV :=
  fun i f => if i < n then at_ i f else bt (A.sub i n) f

def dvAt (at_ : Nat → Nat → DV) : Nat → Nat → SV := fun i f => .dv (at_ i f)

/-- What is appended: how many, and which. -/
def appSrc (s : St O) (sz : Nat) : SV → Option (Nat × (Nat → Nat → SV))
  | .dv .nils | .dv .emp => some (0, fun _ _ => .junk)
  | .dv (.seq n sz' at_) => if sz' = sz then some (n, dvAt at_) else none
  | .vec h => (match lget s.mem h with | some (.vec n sz' at_) => if sz' = sz then some (n, at_) else none | _ => none)
  | _ => none

def pdata : List SV → Option (List DV)
  | [] => some []
  | .dv d :: r => (match pdata r with | some l => some (d :: l) | none => none)
  | _ => none

def intsTail (k : IntKind) : List SV → Option (List Int)
  | [] => some []
  | .dv (.int k' n) :: r => (match ikEq k' k, intsTail k r with | true, some l => some (n :: l) | _, _ => none)
  | _ => none

/-- Whole numbers of a kind. -/
def intsOf : List SV → Option (IntKind × List Int)
  | .dv (.int k n) :: r => (match intsTail k r with | some l => some (k, n :: l) | none => none)
  | _ => none

def zget (z : List DV) (f : Nat) : SV := match lget z f with | some v => .dv v | none => .junk

/-- A row into which a part of another one is put, from a place on. -/
def cpyAt (lo k : Nat) (at_ bt : Nat → Nat → SV) : Nat → Nat → SV := fun i f => if lo ≤ i ∧ i < lo + k then bt (i - lo) f else at_ i f

def shiftAt (A : Ar) (lo : Nat) (at_ : Nat → Nat → SV) : Nat → Nat → SV := fun i f => at_ (A.add lo i) f

/-- Cells of data that can be held against one another. -/
def dvSame : SV → SV → Bool
  | .dv (.int k _), .dv (.int k' _) => ikEq k k'
  | _, _ => false

def dvSames : List SV → List SV → Bool
  | [], [] => true
  | a :: l, b :: r => dvSame a b && dvSames l r
  | _, _ => false

def valSame : Value → Value → Bool
  | .int k _, .int k' _ => ikEq k k'
  | _, _ => false

def valEq : Value → Value → Bool
  | .int _ a, .int _ b => a == b
  | .bool a, .bool b => a == b
  | .string a, .string b => a.toList == b.toList
  | _, _ => false

def all2 {α : Type} (p : α → α → Bool) : List α → List α → Bool
  | [], [] => true
  | a :: l, b :: r => p a b && all2 p l r
  | _, _ => false

/-- '==' at a type of n cells of data. -/
structure EqAg (P : Program) (t : TypeId) (n : Nat) : Prop where
  eq : ∀ (xs ys : List Value) (w : World), xs.length = n → ys.length = n → all2 valSame xs ys = true → (Op.equal t (.agg xs.toArray) (.agg ys.toArray)).run P w = .ok (all2 valEq xs ys) w
  gd : P.eqGuardType P.depth t = false

/-- Of data of whole numbers and truths: which are truths. -/
def dsh : SV → Option Bool
  | .dv (.int _ _) => some false
  | .dv (.bool _) => some true
  | _ => none

def dshs : List SV → Option (List Bool)
  | [] => some []
  | a :: l => match dsh a, dshs l with
    | some b, some r => some (b :: r)
    | _, _ => none

def vfit : Bool → Value → Bool
  | false, .int _ _ => true
  | true, .bool _ => true
  | _, _ => false

def fits : List Bool → List Value → Bool
  | [], [] => true
  | b :: l, x :: r => vfit b x && fits l r
  | _, _ => false

/-- '==' at a type of whole numbers and truths, of a value and itself. -/
structure EqAgS (P : Program) (t : TypeId) (sh : List Bool) : Prop where
  eq : ∀ (xs : List Value) (w : World), fits sh xs = true → (Op.equal t (.agg xs.toArray) (.agg xs.toArray)).run P w = .ok true w
  gd : P.eqGuardType P.depth t = false

/-- A part of a vector of one's own. -/
def winOf (s : St O) (sz : Nat) : SV → Option (Nat × Nat × Nat × Nat × (Nat → Nat → SV))
  | .vec h => (match lget s.mem h with | some (.vec n sz' at_) => if sz' = sz then some (h, 0, n, n, at_) else none | _ => none)
  | .win h lo n _ sz'' => (match lget s.mem h with | some (.vec N sz' at_) => if sz' = sz ∧ sz'' = sz then some (h, lo, n, N, at_) else none | _ => none)
  | _ => none

def evO (s : St O) : Option X → Option SV
  | none => none
  | some x => some (s.ev x)

/-- The bounds of a slice expression: none: as by default. -/
def bnd (d : Int) : Option SV → Option Int
  | none => some d
  | some (.dv (.int _ n)) => some n
  | _ => none

def okSt (l : List SV) (m : Nat) : Bool := allCells l && l.length == m && decide (0 < m)
def okSt0 (l : List SV) (m o : Nat) : Bool := allCells l && l.length == m && (decide (0 < m) || o == 0)

/-- A key of whole numbers. -/
def keyInts : List SV → Option (List Int)
  | [] => some []
  | .dv (.int .i64 n) :: r => (match keyInts r with | some l => some (n :: l) | none => none)
  | _ => none

/-- A map's type is that of a set, whose keys are n whole numbers; one such key. -/
structure SetK (P : Program) (t : TypeId) (n : Nat) (ks : List Int) : Prop where
  ex : ∃ k e, P.underlying t = some (.map k e) ∧ WideMaps.KeyLaw P k ∧ (∀ l : List Int, l.length = n → (∀ x ∈ l, IntKind.i64.has x) → ∃ lit, keyOf P k (ikey l) = some lit) ∧ ∀ w : World, (zeroValue e).run P w = .ok (.agg #[]) w
  has : ∀ x ∈ ks, IntKind.i64.has x

def vop (A : Ar) (P : Program) (d : Option Nat) (ins : Ins) (s : St O) (K : St O → Prop) : Prop :=
  match ins with
  | .mov x => K (s.put d (s.ev x))
  | .pick c a b => (match s.ev c with
    | .dv (.bool t) => bc t (fun _ => K (s.put d (s.ev a))) (fun _ => K (s.put d (s.ev b)))
    | _ => Stuck P d ins s K)
  | .bin op x y => (match s.ev x, s.ev y with
    | .dv (.int k a), .dv (.int k' b) => if isShift op || ikEq k k' then vbin A op k a b fun v => K (s.put d v) else Stuck P d ins s K
    | _, _ => Stuck P d ins s K)
  | .eqn k neg x y => (match veqn k (vecLen s (s.ev x) + vecLen s (s.ev y)) (isLitNil x || isLitNil y) (s.ev x) (s.ev y) with
    | .known b => K (s.put d (.dv (.bool (match neg, b with | true, true => false | true, false => true | false, b => b))))
    | .bools a b => K (s.put d (.dv (.bool (vnot A neg (A.beq a b)))))
    | .some p => if hasVec s (s.ev x) && hasVec s (s.ev y) then ∀ b, p b → K (s.put d (.dv (.bool (vnot A neg b)))) else Stuck P d ins s K
    | .no => Stuck P d ins s K)
  | .un op x => (match op, s.ev x with
    | .not, .dv (.bool b) => K (s.put d (.dv (.bool (A.bnot b))))
    | .neg, .dv (.int k n) => K (s.put d (.dv (.int k (A.un .neg k n))))
    | .xor, .dv (.int k n) => K (s.put d (.dv (.int k (A.un .xor k n))))
    | _, _ => Stuck P d ins s K)
  | .conv k x => (match s.ev x with
    | .dv (.int _ n) => K (s.put d (.dv (.int k (A.conv k n))))
    | _ => Stuck P d ins s K)
  | .fldA off x => (match s.ev x with
    | .ptr h o => K (s.put d (.ptr h (o + off)))
    | .pat h o i n sz f => K (s.put d (.pat h o i n sz (f + off)))
    | .pseq n sz at_ i f => K (s.put d (.pseq n sz at_ i (f + off)))
    | _ => Stuck P d ins s K)
  | .idxA n sz x i => (match s.ev x, s.ev i with
    | .ptr h o, .dv (.int _ i) => IdxVC (A.inb i n) n (A.toN i) fun k => K (s.put d (.pat h o k n sz 0))
    | .gp g, .dv (.int _ i) => (match Objs.gd O g with
      | some (n', sz', at_) => if n' = n ∧ sz' = sz then IdxVC (A.inb i n) n (A.toN i) fun k => K (s.put d (.pseq n sz at_ k 0)) else Stuck P d ins s K
      | none => Stuck P d ins s K)
    | _, _ => Stuck P d ins s K)
  | .idxS sz x i => (match s.ev x, s.ev i with
    | .vec h, .dv (.int _ i) => (match lget s.mem h with
      | some (.vec n _ _) => IdxVC (A.inb i n) n (A.toN i) fun k => K (s.put d (.pat h 0 k n sz 0))
      | _ => Stuck P d ins s K)
    | .dv (.seq n sz' at_), .dv (.int _ i) => if sz' = sz then IdxVC (A.inb i n) n (A.toN i) fun k => K (s.put d (.pseq n sz at_ k 0)) else Stuck P d ins s K
    | .win h lo n _ sz', .dv (.int _ i) => (match lget s.mem h with
      | some (.vec N _ _) => if sz' = sz then Chk (A.le (A.add lo n) N) fun _ => IdxVC (A.inb i n) n (A.toN i) fun k => K (s.put d (.pat h 0 (A.add lo k) N sz 0)) else Stuck P d ins s K
      | _ => Stuck P d ins s K)
    | _, _ => Stuck P d ins s K)
  | .ld none x => (match s.ev x with
    | .ptr h o => (match lget s.mem h with
      | some (.blk ss) => (match segGet ss o with | some v => K (s.put d v) | none => Stuck P d ins s K)
      | _ => Stuck P d ins s K)
    | .pat h o i n sz f => (match lget s.mem h with
      | some (.blk ss) => (match segArr ss o with
        | some (n', sz', at_) => if n' = n ∧ sz' = sz ∧ f < sz then K (s.put d (at_ i f)) else Stuck P d ins s K
        | none => Stuck P d ins s K)
      | some (.vec n' sz' at_) => if n' = n ∧ sz' = sz ∧ o = 0 ∧ f < sz then K (s.put d (at_ i f)) else Stuck P d ins s K
      | _ => Stuck P d ins s K)
    | .pseq _ sz at_ i f => if f < sz then K (s.put d (.dv (at_ i f))) else Stuck P d ins s K
    | _ => Stuck P d ins s K)
  | .ld (some m) x => (match s.ev x with
    | .ptr h o => (match lget s.mem h with
      | some (.blk ss) => (match segTake ss o m with | some l => K (s.put d (.agg l)) | none => Stuck P d ins s K)
      | _ => Stuck P d ins s K)
    | .pat h o i n sz f => (match lget s.mem h with
      | some (.blk ss) => (match segArr ss o with
        | some (n', sz', at_) => if n' = n ∧ sz' = sz ∧ f + m ≤ sz then K (s.put d (.agg (takeAtS at_ i f m))) else Stuck P d ins s K
        | none => Stuck P d ins s K)
      | some (.vec n' sz' at_) => if n' = n ∧ sz' = sz ∧ o = 0 ∧ f + m ≤ sz then K (s.put d (.agg (takeAtS at_ i f m))) else Stuck P d ins s K
      | _ => Stuck P d ins s K)
    | .pseq _ sz at_ i f => if f + m ≤ sz then K (s.put d (.agg (takeAt at_ i f m))) else Stuck P d ins s K
    | _ => Stuck P d ins s K)
  | .st m x v => (match s.ev x, (s.ev v).cells with
    | .ptr h o, some l => (match lget s.mem h with
      | some (.blk ss) => if okSt0 l m o then (match segPut ss o l with | some ss' => K ((s.mset h (.blk ss')).put d .junk) | none => Stuck P d ins s K) else Stuck P d ins s K
      | _ => Stuck P d ins s K)
    | .pat h o i n sz f, some l => (match lget s.mem h with
      | some (.blk ss) => (match segArr ss o with
        | some (n', sz', at_) => if okSt l m = true ∧ n' = n ∧ sz' = sz ∧ f + l.length ≤ sz then
            K ((s.mset h (.blk (segArrSet ss o (updRow at_ i f l)))).put d .junk) else Stuck P d ins s K
        | none => Stuck P d ins s K)
      | some (.vec n' sz' at_) => if okSt l m = true ∧ n' = n ∧ sz' = sz ∧ o = 0 ∧ f + l.length ≤ sz then
            K ((s.mset h (.vec n sz (updRow at_ i f l))).put d .junk) else Stuck P d ins s K
      | _ => Stuck P d ins s K)
    | _, _ => Stuck P d ins s K)
  | .new sh z => K ((s.madd (.blk (shaped sh (dvs z)))).put d (.ptr s.mem.length 0))
  | .box n sh x => (match (s.ev x).cells with
    | some l => if l.length = n then K ((s.madd (.blk (shaped sh l))).put d (.ptr s.mem.length 0)) else Stuck P d ins s K
    | none => Stuck P d ins s K)
  | .build z ps => (match partsV s ps (dvs z) with | some l => K (s.put d (.agg l)) | none => Stuck P d ins s K)
  | .mkS sz n z ps => (match partsV s ps (repl (dvs z) n) with
    | some l => if allCells l then K ((s.madd (.vec n sz (listAt sz l))).put d (.vec s.mem.length)) else Stuck P d ins s K
    | none => Stuck P d ins s K)
  | .fld off none x => (match s.ev x with
    | .agg l => (match lget l off with | some v => K (s.put d v) | none => Stuck P d ins s K)
    | _ => Stuck P d ins s K)
  | .fld off (some m) x => (match s.ev x with
    | .agg l => if off + m ≤ l.length then K (s.put d (.agg ((l.drop off).take m))) else Stuck P d ins s K
    | _ => Stuck P d ins s K)
  | .ext x i => (match s.ev x with
    | .tup l => (match lget l i with | some v => K (s.put d v) | none => Stuck P d ins s K)
    | _ => Stuck P d ins s K)
  | .len true x => (match s.ev x with
    | .dv (.str b) => K (s.put d (.dv (.int .i64 (A.ofN (A.slen b)))))
    | _ => Stuck P d ins s K)
  | .len false x => (match s.ev x with
    | .dv .nils => K (s.put d (.dv (.int .i64 0)))
    | .dv .emp => K (s.put d (.dv (.int .i64 0)))
    | .dv (.seq n _ _) => n ≤ maxN → K (s.put d (.dv (.int .i64 (A.ofN n))))
    | .vec h => (match lget s.mem h with | some (.vec n _ _) => n ≤ maxN → K (s.put d (.dv (.int .i64 (A.ofN n)))) | _ => Stuck P d ins s K)
    | .win _ _ n _ _ => n ≤ maxN → K (s.put d (.dv (.int .i64 (A.ofN n))))
    | _ => Stuck P d ins s K)
  | .app sz b x y => (match s.ev x, appSrc s sz (s.ev y) with
    | .dv .nils, some (m, bt) => Chk (A.room m b) fun _ => K ((s.madd (.vec m sz bt)).put d (.vec s.mem.length))
    | .dv .emp, some (m, bt) => Chk (A.room m b) fun _ => K ((s.madd (.vec m sz bt)).put d (.vec s.mem.length))
    | .vec h, some (m, bt) => (match lget s.mem h with
      | some (.vec n sz' at_) => if sz' = sz then Chk (A.room (A.add n m) b) fun _ =>
          K (((s.mset h .gone).madd (.vec (A.add n m) sz (appAt A n at_ bt))).put d (.vec s.mem.length)) else Stuck P d ins s K
      | _ => Stuck P d ins s K)
    | .win h lo n none sz'', some (m, bt) => (match lget s.mem h with
      | some (.vec N sz' at_) => if sz' = sz ∧ sz'' = sz then Chk (A.le (A.add (A.add lo n) m) N) fun _ =>
          K ((s.mset h (.vec N sz (cpyAt (A.add lo n) m at_ bt))).put d (.win h lo (A.add n m) none sz)) else Stuck P d ins s K
      | _ => Stuck P d ins s K)
    | .win h lo n (some k) sz'', some (m, bt) => (match lget s.mem h with
      | some (.vec N sz' at_) => if sz' = sz ∧ sz'' = sz then Chk (A.le (A.add lo n) N) fun _ => Chk (A.lt k (A.add n m)) fun _ => Chk (A.room (A.add n m) b) fun _ =>
          K ((s.madd (.vec (A.add n m) sz (appAt A n (shiftAt A lo at_) bt))).put d (.vec s.mem.length)) else Stuck P d ins s K
      | _ => Stuck P d ins s K)
    | x', none => (match winOf s sz (s.ev y), x' with
      | some (_, lo2, n2, N2, bt), .dv .nils => Chk (A.le (A.add lo2 n2) N2) fun _ => Chk (A.room n2 b) fun _ => K ((s.madd (.vec n2 sz (shiftAt A lo2 bt))).put d (.vec s.mem.length))
      | some (_, lo2, n2, N2, bt), .dv .emp => Chk (A.le (A.add lo2 n2) N2) fun _ => Chk (A.room n2 b) fun _ => K ((s.madd (.vec n2 sz (shiftAt A lo2 bt))).put d (.vec s.mem.length))
      | some (_, lo2, n2, N2, bt), .win h lo n none sz'' => (match lget s.mem h with
        | some (.vec N sz' at_) => if sz' = sz ∧ sz'' = sz then Chk (A.le (A.add lo2 n2) N2) fun _ => Chk (A.le (A.add (A.add lo n) n2) N) fun _ =>
            K ((s.mset h (.vec N sz (cpyAt (A.add lo n) n2 at_ (shiftAt A lo2 bt)))).put d (.win h lo (A.add n n2) none sz)) else Stuck P d ins s K
        | _ => Stuck P d ins s K)
      | _, _ => Stuck P d ins s K)
    | _, _ => Stuck P d ins s K)
  | .nchk x => (match s.ev x with
    | .ptr h o => K (s.put d (.ptr h o))
    | .pat h o i n sz f => K (s.put d (.pat h o i n sz f))
    | .pseq n sz at_ i f => K (s.put d (.pseq n sz at_ i f))
    | .fn f l => K (s.put d (.fn f l))
    | .bfn f l => K (s.put d (.bfn f l))
    | .mfn m (.ifc t v) => Chk (∃ f, methOf P t m = some f) fun _ => K (s.put d (.mfn m (.ifc t v)))
    | .ifc t v => K (s.put d (.ifc t v))
    | _ => Stuck P d ins s K)
  | .mki t x => K (s.put d (.ifc t (s.ev x)))
  | .mkf f l => K (s.put d (.fn f (l.map s.ev)))
  | .mkb f l => K (s.put d (.bfn f (l.map s.ev)))
  | .mkm m x => K (s.put d (.mfn m (s.ev x)))
  | .idxV n x i => (match s.ev x, s.ev i with
    | .agg l, .dv (.int _ i) => (match intsOf l with
      | some (k, ns) => if ns.length = n then IdxVC (A.inb i n) n (A.toN i) fun j => K (s.put d (.dv (.int k (A.ig ns j)))) else Stuck P d ins s K
      | none => Stuck P d ins s K)
    | _, _ => Stuck P d ins s K)
  | .call f l => CallVC P f d l s K
  | .callv x l => (match s.ev x with
    | .fn f c => CallVC P f d (l ++ c.map .c) s K
    | .bfn f c => CallVC P f d (c.map .c ++ l) s K
    | _ => Stuck P d ins s K)
  | .inv r m l => (match s.ev r with
    | .ifc t v => InvVC P t m d (.c v :: l) s K
    | _ => Stuck P d ins s K)
  | .slc sz x lo hi mx => (match s.ev x, evO s mx with
    | .dv (.seq n sz' at_), none => (match bnd 0 (evO s lo), bnd (A.ofN n) (evO s hi) with
      | some l, some h => if sz' = sz then Chk (A.slb l h (A.ofN n) (A.ofN n)) fun _ => K (s.put d (.dv (.seq (A.sub (A.toN h) (A.toN l)) sz fun i f => at_ (A.add (A.toN l) i) f))) else Stuck P d ins s K
      | _, _ => Stuck P d ins s K)
    | .dv (.seq _ _ _), some (.dv (.int _ 0)) => (match evO s lo, evO s hi with
      | none, some (.dv (.int _ 0)) => K (s.put d (.dv .emp))
      | some (.dv (.int _ 0)), some (.dv (.int _ 0)) => K (s.put d (.dv .emp))
      | _, _ => Stuck P d ins s K)
    | .vec h, none => (match lget s.mem h with
      | some (.vec n sz' _) => (match bnd 0 (evO s lo), bnd (A.ofN n) (evO s hi) with
        | some l, some u => if sz' = sz then Chk (A.slb l u (A.ofN n) (A.ofN n)) fun _ => K (s.put d (.win h (A.toN l) (A.sub (A.toN u) (A.toN l)) none sz)) else Stuck P d ins s K
        | _, _ => Stuck P d ins s K)
      | _ => Stuck P d ins s K)
    | .vec h, some m => (match lget s.mem h with
      | some (.vec n sz' _) => (match bnd 0 (evO s lo), evO s hi, m with
        | some 0, some (.dv (.int _ 0)), .dv (.int _ 0) => K (s.put d (.dv .emp))
        | some l, some (.dv (.int _ u)), .dv (.int _ m) => if sz' = sz then Chk (A.slb l u m (A.ofN n)) fun _ => K (s.put d (.win h (A.toN l) (A.sub (A.toN u) (A.toN l)) (some (A.sub (A.toN m) (A.toN l))) sz)) else Stuck P d ins s K
        | _, _, _ => Stuck P d ins s K)
      | _ => Stuck P d ins s K)
    | .win h lo' n c sz', none => (match lget s.mem h, c with
      | some (.vec N _ _), none => (match bnd 0 (evO s lo), bnd (A.ofN n) (evO s hi) with
        | some l, some u => if sz' = sz then Chk (A.slb l u (A.ofN (A.sub N lo')) (A.ofN (A.sub N lo'))) fun _ => K (s.put d (.win h (A.add lo' (A.toN l)) (A.sub (A.toN u) (A.toN l)) none sz)) else Stuck P d ins s K
        | _, _ => Stuck P d ins s K)
      | some (.vec _ _ _), some k => (match bnd 0 (evO s lo), bnd (A.ofN n) (evO s hi) with
        | some l, some u => if sz' = sz then Chk (A.slb l u (A.ofN n) (A.ofN n)) fun _ => K (s.put d (.win h (A.add lo' (A.toN l)) (A.sub (A.toN u) (A.toN l)) (some (A.sub k (A.toN l))) sz)) else Stuck P d ins s K
        | _, _ => Stuck P d ins s K)
      | _, _ => Stuck P d ins s K)
    | .win h lo' n _ sz', some m => (match lget s.mem h with
      | some (.vec _ _ _) => (match bnd 0 (evO s lo), evO s hi, m with
        | some l, some (.dv (.int _ u)), .dv (.int _ m) => if sz' = sz then Chk (A.slb l u m (A.ofN n)) fun _ => K (s.put d (.win h (A.add lo' (A.toN l)) (A.sub (A.toN u) (A.toN l)) (some (A.sub (A.toN m) (A.toN l))) sz)) else Stuck P d ins s K
        | _, _, _ => Stuck P d ins s K)
      | _ => Stuck P d ins s K)
    | _, _ => Stuck P d ins s K)
  | .ssl x lo hi => (match s.ev x with
    | .dv (.str b) => (match bnd 0 (evO s lo), bnd (A.ofN (A.slen b)) (evO s hi) with
      | some l, some h => Chk (A.slb l h (A.ofN (A.slen b)) (A.ofN (A.slen b))) fun _ => K (s.put d (.dv (.str (A.ssub b (A.toN l) (A.toN h)))))
      | _, _ => Stuck P d ins s K)
    | _ => Stuck P d ins s K)
  | .mkM n => K ((s.madd (.mset n fun _ => false)).put d (.mp s.mem.length))
  | .mlk t n x k => (match s.ev x, s.ev k with
    | .mp h, .agg l => (match lget s.mem h, keyInts l with
      | some (.mset n' has), some ks => if n' = n ∧ ks.length = n then Chk (SetK P t n ks) fun _ => K (s.put d (.tup [.agg [], .dv (.bool (has ks))])) else Stuck P d ins s K
      | _, _ => Stuck P d ins s K)
    | _, _ => Stuck P d ins s K)
  | .mup t n m k v => (match s.ev m, s.ev k, s.ev v with
    | .mp h, .agg l, .agg [] => (match lget s.mem h, keyInts l with
      | some (.mset n' has), some ks => if n' = n ∧ ks.length = n then Chk (SetK P t n ks) fun _ => K ((s.mset h (.mset n (A.addk has ks))).put d .junk) else Stuck P d ins s K
      | _, _ => Stuck P d ins s K)
    | _, _, _ => Stuck P d ins s K)
  | .pu p xs => (match pdata (xs.map s.ev) with
    | some ds => (match puT p ds with
      | some .b => Chk (A.pc p ds) fun _ => K (s.put d (.dv (.bool (A.pb p ds))))
      | some (.i k) => Chk (A.pc p ds) fun _ => K (s.put d (.dv (.int k (A.pi p ds))))
      | some (.f k) => Chk (A.pc p ds) fun _ => K (s.put d (.dv (.flt k (A.pf p ds))))
      | some .s => Chk (A.pc p ds) fun _ => K (s.put d (.dv (.str (A.ps p ds))))
      | none => Stuck P d ins s K)
    | none => Stuck P d ins s K)
  | .cpl x y => (match s.ev x, s.ev y with
    | .dv (.flt k a), .dv (.flt k' b) => if fkEq k k' then K (s.put d (.dv (.cpx k a b))) else Stuck P d ins s K
    | _, _ => Stuck P d ins s K)
  | .cpart im x => (match s.ev x with
    | .dv (.cpx k a b) => (match im with | true => K (s.put d (.dv (.flt k b))) | false => K (s.put d (.dv (.flt k a))))
    | _ => Stuck P d ins s K)
  | .mks sz b z n c => (match s.ev n, s.ev c with
    | .dv (.int _ n), .dv (.int _ c) => Chk (A.mkok n c b) fun _ => K ((s.madd (.vec (A.toN n) sz fun _ f => zget z f)).put d (.vec s.mem.length))
    | _, _ => Stuck P d ins s K)
  | .cpy sz x y => (match winOf s sz (s.ev x), appSrc s sz (s.ev y) with
    | some (h, lo, n, N, at_), some (m, bt) => Chk (A.le (A.add lo n) N) fun _ => K ((s.mset h (.vec N sz (cpyAt lo (A.min m n) at_ bt))).put d (.dv (.int .i64 (A.ofN (A.min m n)))))
    | some (h, lo, n, N, at_), none => (match winOf s sz (s.ev y) with
      | some (_, lo2, n2, N2, bt) => Chk (A.le (A.add lo n) N) fun _ => Chk (A.le (A.add lo2 n2) N2) fun _ =>
          K ((s.mset h (.vec N sz (cpyAt lo (A.min n2 n) at_ (shiftAt A lo2 bt)))).put d (.dv (.int .i64 (A.ofN (A.min n2 n)))))
      | none => Stuck P d ins s K)
    | none, _ => Stuck P d ins s K)
  | .clr sz z x => (match winOf s sz (s.ev x) with
    | some (h, lo, n, N, at_) => Chk (A.le (A.add lo n) N) fun _ => K ((s.mset h (.vec N sz (cpyAt lo n at_ fun _ f => zget z f))).put d (.tup []))
    | none => (match s.ev x with
      | .dv .nils => K (s.put d (.tup []))
      | .dv .emp => K (s.put d (.tup []))
      | _ => Stuck P d ins s K))
  | .eqa t n neg x y => (match s.ev x, s.ev y with
    | .agg l, .agg r => if dvSames l r = true ∧ l.length = n then Chk (EqAg P t n) fun _ => K (s.put d (.dv (.bool (vnot A neg (A.aeq l r))))) else (match dshs l with
      | some sh => Chk (l = r ∧ EqAgS P t sh) fun _ => K (s.put d (.dv (.bool (vnot A neg true))))
      | none => Stuck P d ins s K)
    | _, _ => Stuck P d ins s K)
  | .tas t z ok x => (match s.ev x, ok with
    | .ifc t' v, true => if t' = t then K (s.put d (.tup [v, .dv (.bool true)])) else K (s.put d (.tup [.dv z, .dv (.bool false)]))
    | .dv .nili, true => K (s.put d (.tup [.dv z, .dv (.bool false)]))
    | .ifc t' v, false => if t' = t then K (s.put d v) else Stuck P d ins s K
    | _, _ => Stuck P d ins s K)
  | .other => Stuck P d ins s K

end Go.V
