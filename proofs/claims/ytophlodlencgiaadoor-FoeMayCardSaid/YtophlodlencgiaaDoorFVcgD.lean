/-
  The conditions of an operation.
-/
import Derived.Test.YtophlodlencgiaaDoorFVcgC
namespace Go.V
variable {O : Type} [Objs O]

def ikEq : IntKind → IntKind → Bool
  | .i8, .i8 => true
  | .i16, .i16 => true
  | .i32, .i32 => true
  | .i64, .i64 => true
  | .u8, .u8 => true
  | .u16, .u16 => true
  | .u32, .u32 => true
  | .u64, .u64 => true
  | _, _ => false

theorem ikEq_eq {a b : IntKind} (h : ikEq a b = true) : a = b := by cases a <;> cases b <;> simp_all [ikEq]

inductive BK where
  | arith | div | shift | cmp

def binK : BinOp → BK
  | .add | .sub | .mul | .and | .or | .xor | .andNot => .arith
  | .quo | .rem => .div
  | .shl | .shr => .shift
  | _ => .cmp

def vbin (A : Ar) (op : BinOp) (k : IntKind) (a b : Int) (K : SV → Prop) : Prop :=
  match binK op with
  | .arith => K (.dv (.int k (A.bin op k a b)))
  | .div => Chk (A.nz b) fun _ => K (.dv (.int k (A.bin op k a b)))
  | .shift => Chk (A.nneg b) fun _ => K (.dv (.int k (A.bin op k a b)))
  | .cmp => K (.dv (.bool (A.cmp op a b)))

def isShift : BinOp → Bool
  | .shl | .shr => true
  | _ => false

def vnot (A : Ar) (neg : Bool) (b : Bool) : Bool :=
  match neg with
  | true => A.bnot b
  | false => b

/-- '==' on what is no number: what is told, or none where the executor does not know. -/
inductive EQ where
  | known (b : Bool)
  | bools (a b : Bool)
  | some (p : Bool → Prop)
  | no

def veqn (k : EK) (n : Nat) (x y : SV) : EQ :=
  match k with
  | .bool => (match x, y with
    | .dv (.bool a), .dv (.bool b) => .bools a b
    | _, _ => .no)
  | .ptr => (match x, y with
    | .dv .nilp, .dv .nilp => .known true
    | .ptr .., .dv .nilp | .pat .., .dv .nilp | .pseq .., .dv .nilp => .known false
    | .dv .nilp, .ptr .. | .dv .nilp, .pat .. | .dv .nilp, .pseq .. => .known false
    | _, _ => .no)
  | .fn => (match x, y with
    | .dv .nilf, .dv .nilf => .known true
    | .fn .., .dv .nilf | .dv .nilf, .fn .. => .known false
    | _, _ => .no)
  | .ifc => (match x, y with
    | .ifc .., .dv .nili | .dv .nili, .ifc .. => .known false
    | _, _ => .no)
  | .slc => (match x, y with
    | .dv .nils, .dv .nils => .known true
    | .dv .emp, .dv .nils | .dv .nils, .dv .emp => .some fun _ => True
    | .dv (.seq n _ _), .dv .nils | .dv .nils, .dv (.seq n _ _) => .some fun b => 0 < n → b = false
    | .vec _, .dv .nils | .dv .nils, .vec _ => .some fun b => 0 < n → b = false
    | _, _ => .no)

/-- The length of the vector in question, if one is. -/
def vecLen (s : St O) : SV → Nat
  | .vec h => (match lget s.mem h with | some (.vec n _ _) => n | _ => 0)
  | _ => 0

def isVec : SV → Bool
  | .vec _ => true
  | _ => false

def hasVec (s : St O) : SV → Bool
  | .vec h => (match lget s.mem h with | some (.vec _ _ _) => true | _ => false)
  | _ => true

def updRow (at_ : Nat → Nat → SV) (i f : Nat) (l : List SV) : Nat → Nat → SV :=
  fun j g => if j = i then (if g < f then at_ j g else match lget l (g - f) with | some v => v | none => at_ j g) else at_ j g

def partsV (s : St O) : List (Nat × Nat × X) → List SV → Option (List SV)
  | [], l => some l
  | (o, n, x) :: r, l => (match (s.ev x).cells with
    | some cs => if cs.length = n ∧ o + n ≤ l.length then partsV s r (lputs l o cs) else none
    | none => none)

def repl (z : List SV) : Nat → List SV
  | 0 => []
  | n + 1 => z ++ repl z n

def listAt (sz : Nat) (l : List SV) : Nat → Nat → SV :=
  fun i f => match lget l (i * sz + f) with | some v => v | none => .junk

/-- The result of an append of m elements to a vector of n. -/
def appAt (A : Ar) (n : Nat) (at_ bt : Nat → Nat → SV) : Nat → Nat → SV :=
  fun i f => if i < n then at_ i f else bt (A.sub i n) f

def dvAt (at_ : Nat → Nat → DV) : Nat → Nat → SV := fun i f => .dv (at_ i f)

/-- What is appended: how many, and which. -/
def appSrc (s : St O) (sz : Nat) : SV → Option (Nat × (Nat → Nat → SV))
  | .dv .nils | .dv .emp => some (0, fun _ _ => .junk)
  | .dv (.seq n sz' at_) => if sz' = sz then some (n, dvAt at_) else none
  | .vec h => (match lget s.mem h with | some (.vec n sz' at_) => if sz' = sz then some (n, at_) else none | _ => none)
  | _ => none

def evO (s : St O) : Option X → Option SV
  | none => none
  | some x => some (s.ev x)

/-- The bounds of a slice expression: none: as by default. -/
def bnd (d : Int) : Option SV → Option Int
  | none => some d
  | some (.dv (.int _ n)) => some n
  | _ => none

def okSt (l : List SV) (m : Nat) : Bool := allCells l && l.length == m && decide (0 < m)

def vop (A : Ar) (P : Program) (d : Option Nat) (ins : Ins) (s : St O) (K : St O → Prop) : Prop :=
  match ins with
  | .mov x => K (s.put d (s.ev x))
  | .pick c a b => (match s.ev c with
    | .dv (.bool t) => bc t (fun _ => K (s.put d (s.ev a))) (fun _ => K (s.put d (s.ev b)))
    | _ => Stuck P d ins s K)
  | .bin op x y => (match s.ev x, s.ev y with
    | .dv (.int k a), .dv (.int k' b) => if isShift op || ikEq k k' then vbin A op k a b fun v => K (s.put d v) else Stuck P d ins s K
    | _, _ => Stuck P d ins s K)
  | .eqn k neg x y => (match veqn k (vecLen s (s.ev x) + vecLen s (s.ev y)) (s.ev x) (s.ev y) with
    | .known b => K (s.put d (.dv (.bool (match neg, b with | true, true => false | true, false => true | false, b => b))))
    | .bools a b => K (s.put d (.dv (.bool (vnot A neg (A.beq a b)))))
    | .some p => if hasVec s (s.ev x) && hasVec s (s.ev y) then ∀ b, p b → K (s.put d (.dv (.bool (vnot A neg b)))) else Stuck P d ins s K
    | .no => Stuck P d ins s K)
  | .un op x => (match op, s.ev x with
    | .not, .dv (.bool b) => K (s.put d (.dv (.bool (A.bnot b))))
    | .neg, .dv (.int k n) => K (s.put d (.dv (.int k (A.un .neg k n))))
    | .xor, .dv (.int k n) => K (s.put d (.dv (.int k (A.un .xor k n))))
    | _, _ => Stuck P d ins s K)
  | .conv k x => (match s.ev x with
    | .dv (.int _ n) => K (s.put d (.dv (.int k (A.conv k n))))
    | _ => Stuck P d ins s K)
  | .fldA off x => (match s.ev x with
    | .ptr h o => K (s.put d (.ptr h (o + off)))
    | .pat h o i n sz f => K (s.put d (.pat h o i n sz (f + off)))
    | .pseq n sz at_ i f => K (s.put d (.pseq n sz at_ i (f + off)))
    | _ => Stuck P d ins s K)
  | .idxA n sz x i => (match s.ev x, s.ev i with
    | .ptr h o, .dv (.int _ i) => IdxVC (A.inb i n) n (A.toN i) fun k => K (s.put d (.pat h o k n sz 0))
    | .gp g, .dv (.int _ i) => (match Objs.gd O g with
      | some (n', sz', at_) => if n' = n ∧ sz' = sz then IdxVC (A.inb i n) n (A.toN i) fun k => K (s.put d (.pseq n sz at_ k 0)) else Stuck P d ins s K
      | none => Stuck P d ins s K)
    | _, _ => Stuck P d ins s K)
  | .idxS sz x i => (match s.ev x, s.ev i with
    | .vec h, .dv (.int _ i) => (match lget s.mem h with
      | some (.vec n _ _) => IdxVC (A.inb i n) n (A.toN i) fun k => K (s.put d (.pat h 0 k n sz 0))
      | _ => Stuck P d ins s K)
    | .dv (.seq n sz' at_), .dv (.int _ i) => if sz' = sz then IdxVC (A.inb i n) n (A.toN i) fun k => K (s.put d (.pseq n sz at_ k 0)) else Stuck P d ins s K
    | _, _ => Stuck P d ins s K)
  | .ld none x => (match s.ev x with
    | .ptr h o => (match lget s.mem h with
      | some (.blk ss) => (match segGet ss o with | some v => K (s.put d v) | none => Stuck P d ins s K)
      | _ => Stuck P d ins s K)
    | .pat h o i n sz f => (match lget s.mem h with
      | some (.blk ss) => (match segArr ss o with
        | some (n', sz', at_) => if n' = n ∧ sz' = sz ∧ f < sz then K (s.put d (at_ i f)) else Stuck P d ins s K
        | none => Stuck P d ins s K)
      | some (.vec n' sz' at_) => if n' = n ∧ sz' = sz ∧ o = 0 ∧ f < sz then K (s.put d (at_ i f)) else Stuck P d ins s K
      | _ => Stuck P d ins s K)
    | .pseq _ sz at_ i f => if f < sz then K (s.put d (.dv (at_ i f))) else Stuck P d ins s K
    | _ => Stuck P d ins s K)
  | .ld (some m) x => (match s.ev x with
    | .ptr h o => (match lget s.mem h with
      | some (.blk ss) => (match segTake ss o m with | some l => K (s.put d (.agg l)) | none => Stuck P d ins s K)
      | _ => Stuck P d ins s K)
    | .pat h o i n sz f => (match lget s.mem h with
      | some (.blk ss) => (match segArr ss o with
        | some (n', sz', at_) => if n' = n ∧ sz' = sz ∧ f + m ≤ sz then K (s.put d (.agg (takeAtS at_ i f m))) else Stuck P d ins s K
        | none => Stuck P d ins s K)
      | some (.vec n' sz' at_) => if n' = n ∧ sz' = sz ∧ o = 0 ∧ f + m ≤ sz then K (s.put d (.agg (takeAtS at_ i f m))) else Stuck P d ins s K
      | _ => Stuck P d ins s K)
    | .pseq _ sz at_ i f => if f + m ≤ sz then K (s.put d (.agg (takeAt at_ i f m))) else Stuck P d ins s K
    | _ => Stuck P d ins s K)
  | .st m x v => (match s.ev x, (s.ev v).cells with
    | .ptr h o, some l => (match lget s.mem h with
      | some (.blk ss) => if okSt l m then (match segPut ss o l with | some ss' => K ((s.mset h (.blk ss')).put d .junk) | none => Stuck P d ins s K) else Stuck P d ins s K
      | _ => Stuck P d ins s K)
    | .pat h o i n sz f, some l => (match lget s.mem h with
      | some (.blk ss) => (match segArr ss o with
        | some (n', sz', at_) => if okSt l m = true ∧ n' = n ∧ sz' = sz ∧ f + l.length ≤ sz then
            K ((s.mset h (.blk (segArrSet ss o (updRow at_ i f l)))).put d .junk) else Stuck P d ins s K
        | none => Stuck P d ins s K)
      | some (.vec n' sz' at_) => if okSt l m = true ∧ n' = n ∧ sz' = sz ∧ o = 0 ∧ f + l.length ≤ sz then
            K ((s.mset h (.vec n sz (updRow at_ i f l))).put d .junk) else Stuck P d ins s K
      | _ => Stuck P d ins s K)
    | _, _ => Stuck P d ins s K)
  | .new sh z => K ((s.madd (.blk (shaped sh (dvs z)))).put d (.ptr s.mem.length 0))
  | .box n sh x => (match (s.ev x).cells with
    | some l => if l.length = n then K ((s.madd (.blk (shaped sh l))).put d (.ptr s.mem.length 0)) else Stuck P d ins s K
    | none => Stuck P d ins s K)
  | .build z ps => (match partsV s ps (dvs z) with | some l => K (s.put d (.agg l)) | none => Stuck P d ins s K)
  | .mkS sz n z ps => (match partsV s ps (repl (dvs z) n) with
    | some l => if allCells l then K ((s.madd (.vec n sz (listAt sz l))).put d (.vec s.mem.length)) else Stuck P d ins s K
    | none => Stuck P d ins s K)
  | .fld off none x => (match s.ev x with
    | .agg l => (match lget l off with | some v => K (s.put d v) | none => Stuck P d ins s K)
    | _ => Stuck P d ins s K)
  | .fld off (some m) x => (match s.ev x with
    | .agg l => if off + m ≤ l.length then K (s.put d (.agg ((l.drop off).take m))) else Stuck P d ins s K
    | _ => Stuck P d ins s K)
  | .ext x i => (match s.ev x with
    | .tup l => (match lget l i with | some v => K (s.put d v) | none => Stuck P d ins s K)
    | _ => Stuck P d ins s K)
  | .len true x => (match s.ev x with
    | .dv (.str b) => K (s.put d (.dv (.int .i64 (A.ofN (A.slen b)))))
    | _ => Stuck P d ins s K)
  | .len false x => (match s.ev x with
    | .dv .nils => K (s.put d (.dv (.int .i64 0)))
    | .dv .emp => K (s.put d (.dv (.int .i64 0)))
    | .dv (.seq n _ _) => n ≤ maxN → K (s.put d (.dv (.int .i64 (A.ofN n))))
    | .vec h => (match lget s.mem h with | some (.vec n _ _) => n ≤ maxN → K (s.put d (.dv (.int .i64 (A.ofN n)))) | _ => Stuck P d ins s K)
    | _ => Stuck P d ins s K)
  | .app sz b x y => (match s.ev x, appSrc s sz (s.ev y) with
    | .dv .nils, some (m, bt) => Chk (A.room m b) fun _ => K ((s.madd (.vec m sz bt)).put d (.vec s.mem.length))
    | .dv .emp, some (m, bt) => Chk (A.room m b) fun _ => K ((s.madd (.vec m sz bt)).put d (.vec s.mem.length))
    | .vec h, some (m, bt) => (match lget s.mem h with
      | some (.vec n sz' at_) => if sz' = sz then Chk (A.room (A.add n m) b) fun _ =>
          K (((s.mset h .gone).madd (.vec (A.add n m) sz (appAt A n at_ bt))).put d (.vec s.mem.length)) else Stuck P d ins s K
      | _ => Stuck P d ins s K)
    | _, _ => Stuck P d ins s K)
  | .nchk x => (match s.ev x with
    | .ptr h o => K (s.put d (.ptr h o))
    | .pat h o i n sz f => K (s.put d (.pat h o i n sz f))
    | .pseq n sz at_ i f => K (s.put d (.pseq n sz at_ i f))
    | .fn f l => K (s.put d (.fn f l))
    | .ifc t v => K (s.put d (.ifc t v))
    | _ => Stuck P d ins s K)
  | .mki t x => K (s.put d (.ifc t (s.ev x)))
  | .mkf f l => K (s.put d (.fn f (l.map s.ev)))
  | .call f l => CallVC P f d l s K
  | .callv x l => (match s.ev x with
    | .fn f c => CallVC P f d (l ++ c.map .c) s K
    | _ => Stuck P d ins s K)
  | .inv r m l => (match s.ev r with
    | .ifc t v => InvVC P t m d (.c v :: l) s K
    | _ => Stuck P d ins s K)
  | .slc sz x lo hi mx => (match s.ev x, evO s mx with
    | .dv (.seq n sz' at_), none => (match bnd 0 (evO s lo), bnd (A.ofN n) (evO s hi) with
      | some l, some h => if sz' = sz then Chk (A.slb l h (A.ofN n) (A.ofN n)) fun _ => K (s.put d (.dv (.seq (A.sub (A.toN h) (A.toN l)) sz fun i f => at_ (A.add (A.toN l) i) f))) else Stuck P d ins s K
      | _, _ => Stuck P d ins s K)
    | .dv (.seq _ _ _), some (.dv (.int _ 0)) => (match evO s lo, evO s hi with
      | none, some (.dv (.int _ 0)) => K (s.put d (.dv .emp))
      | some (.dv (.int _ 0)), some (.dv (.int _ 0)) => K (s.put d (.dv .emp))
      | _, _ => Stuck P d ins s K)
    | _, _ => Stuck P d ins s K)
  | .ssl x lo hi => (match s.ev x with
    | .dv (.str b) => (match bnd 0 (evO s lo), bnd (A.ofN (A.slen b)) (evO s hi) with
      | some l, some h => Chk (A.slb l h (A.ofN (A.slen b)) (A.ofN (A.slen b))) fun _ => K (s.put d (.dv (.str (A.ssub b (A.toN l) (A.toN h)))))
      | _, _ => Stuck P d ins s K)
    | _ => Stuck P d ins s K)
  | .other => Stuck P d ins s K

end Go.V
