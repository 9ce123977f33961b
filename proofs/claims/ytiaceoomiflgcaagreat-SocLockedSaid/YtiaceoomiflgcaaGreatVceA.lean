/-
  A concrete executor: what a closed call tells, reckoned; every order that is open is gone through.
-/
import Derived.Test.YtiaceoomiflgcaaGreatVcgX
namespace Go.V
variable {O : Type} [Objs O]

structure FE where
  nt : Nat
  ic : IC
  rs : List RV

/-- What is known of a program: its functions' code; functions that are told by hand; methods; sets of keys. -/
structure Tb (O : Type) where
  fn : FuncId → Option FE
  pm : FuncId → Option (List SV → List (Chunk O) → Option (SV × List (Chunk O)))
  me : TypeId → String → Option FuncId
  sk : TypeId → Nat → List Int → Bool
  ea : TypeId → Nat → Bool

/-- The code from a label on. -/
def findI : IC → Nat → Option IC
  | .seq a b, l => (match findI a l with
    | some r => some (.seq r b)
    | none => findI b l)
  | .label l', l => (match Nat.beq l' l with | true => some .skip | false => none)
  | .cut b, l => findI b l
  | _, _ => none

def inbB (i : Int) (n : Nat) : Bool :=
  match i with
  | .ofNat k => Nat.blt k n
  | .negSucc _ => false

def nzB : Int → Bool
  | .ofNat 0 => false
  | _ => true

def nnegB : Int → Bool
  | .ofNat _ => true
  | .negSucc _ => false

def roomB (n b : Nat) : Bool := Nat.ble n maxN && Nat.ble (n * b) 140737488355328

noncomputable def frcN {α : Type} (n : Nat) (k : Nat → α) : α := @Nat.rec (fun _ => α) (k 0) (fun m _ => k (Nat.succ m)) n
theorem frcN_eq {α : Type} (n : Nat) (k : Nat → α) : frcN n k = k n := by cases n <;> rfl

noncomputable def frcI {α : Type} (i : Int) (k : Int → α) : α :=
  match i with
  | .ofNat n => frcN n fun m => k (.ofNat m)
  | .negSucc n => frcN n fun m => k (.negSucc m)
theorem frcI_eq {α : Type} (i : Int) (k : Int → α) : frcI i k = k i := by cases i <;> simp only [frcI, frcN_eq]

def frcB {α : Type} (b : Bool) (k : Bool → α) : α :=
  match b with
  | true => k true
  | false => k false
theorem frcB_eq {α : Type} (b : Bool) (k : Bool → α) : frcB b k = k b := by cases b <;> rfl

noncomputable def binE (op : BinOp) (k : IntKind) (a b : Int) (K : SV → Bool) : Bool :=
  match binK op with
  | .arith => frcI (binI op k a b) fun v => K (.dv (.int k v))
  | .div => nzB b && frcI (binI op k a b) fun v => K (.dv (.int k v))
  | .shift => nnegB b && frcI (binI op k a b) fun v => K (.dv (.int k v))
  | .cmp => frcB (cmpI op a b) fun v => K (.dv (.bool v))

abbrev Kt (O : Type) := St O → Bool
abbrev CallT (O : Type) := FuncId → List SV → List (Chunk O) → (SV → List (Chunk O) → Bool) → Bool

/-- Is it clear that a slice that is held against nil has elements? -/
def posSl (s : St O) (x y : SV) : Bool :=
  match x, y with
  | .dv (.seq (_ + 1) _ _), .dv .nils => true
  | .dv .nils, .dv (.seq (_ + 1) _ _) => true
  | .vec h, .dv .nils => Nat.blt 0 (vecLen s (.vec h))
  | .dv .nils, .vec h => Nat.blt 0 (vecLen s (.vec h))
  | .win _ _ (_ + 1) _ _, .dv .nils => true
  | .dv .nils, .win _ _ (_ + 1) _ _ => true
  | _, _ => false

def puCB : Pu → List DV → Bool
  | .f2i k, [.flt f x] => (match f2iF f x with | some n => decide (k.min ≤ n) && decide (n ≤ k.max) | none => false)
  | .sidx, [.str s, .int _ i] => inbB i s.size
  | .scat, [.str a, .str b] => Nat.ble (a.size + b.size) 9223372036854775807
  | .f2i _, _ => false
  | .sidx, _ => false
  | .scat, _ => false
  | _, _ => true

def mkB (n c : Int) (b : Nat) : Bool :=
  match n, c with
  | .ofNat n, .ofNat c => Nat.beq n c && (Nat.ble n maxN && Nat.ble (n * b) 140737488355328)
  | _, _ => false

def slbB (l h m c : Int) : Bool :=
  match l, h, m, c with
  | .ofNat l, .ofNat h, .ofNat m, .ofNat c => Nat.ble l h && (Nat.ble h m && Nat.ble m c)
  | _, _, _, _ => false

/-- The same, by recursors: fewer steps for who reckons. -/
noncomputable def fget {α : Type} (l : List α) : Nat → Option α :=
  @List.rec α (fun _ => Nat → Option α) (fun _ => none) (fun a _ ih i => @Nat.rec (fun _ => Option α) (some a) (fun j _ => ih j) i) l
noncomputable def fset {α : Type} (l : List α) (i : Nat) (v : α) : List α :=
  @List.rec α (fun _ => Nat → List α) (fun _ => []) (fun a t ih i => @Nat.rec (fun _ => List α) (v :: t) (fun j _ => a :: ih j) i) l i

theorem fget_eq {α : Type} : ∀ (l : List α) (i : Nat), fget l i = lget l i
  | [], _ => rfl
  | _ :: _, 0 => rfl
  | _ :: l, i + 1 => fget_eq l i
theorem fset_eq {α : Type} (v : α) : ∀ (l : List α) (i : Nat), fset l i v = lset l i v
  | [], _ => rfl
  | _ :: _, 0 => rfl
  | a :: l, i + 1 => congrArg (a :: ·) (fset_eq v l i)

noncomputable def St.evF (s : St O) (x : X) : SV :=
  @X.rec (fun _ => SV) (fun i => @Option.rec SV (fun _ => SV) .junk (fun v => v) (fget s.env i)) (fun v => v) x
noncomputable def St.putF (s : St O) (d : Option Nat) (v : SV) : St O :=
  @Option.rec Nat (fun _ => St O) s (fun d => ⟨fset s.env d v, s.mem⟩) d
noncomputable def St.msetF (s : St O) (h : Nat) (c : Chunk O) : St O := ⟨s.env, fset s.mem h c⟩

omit [Objs O] in
theorem evF_eq (s : St O) : s.evF = s.ev := by
  funext x
  cases x with
  | t i => simp only [St.evF, St.ev, fget_eq]; cases lget s.env i <;> rfl
  | c v => rfl
omit [Objs O] in
theorem putF_eq (s : St O) (d : Option Nat) (v : SV) : s.putF d v = s.put d v := by
  cases d with
  | none => rfl
  | some d => simp only [St.putF, St.put, fset_eq]
omit [Objs O] in
theorem msetF_eq (s : St O) (h : Nat) (c : Chunk O) : s.msetF h c = s.mset h c := by simp only [St.msetF, St.mset, fset_eq]

noncomputable def op_mov (_ : Tb O) (_ : CallT O) (d : Option Nat) (x : X) (s : St O) (K : Kt O) : Bool := K (s.putF d (s.evF x))

noncomputable def op_pick (_ : Tb O) (_ : CallT O) (d : Option Nat) (c : X) (a : X) (b : X) (s : St O) (K : Kt O) : Bool := (match s.evF c with
    | .dv (.bool true) => K (s.putF d (s.evF a))
    | .dv (.bool false) => K (s.putF d (s.evF b))
    | _ => false)

noncomputable def op_bin (_ : Tb O) (_ : CallT O) (d : Option Nat) (op : BinOp) (x : X) (y : X) (s : St O) (K : Kt O) : Bool := (match s.evF x, s.evF y with
    | .dv (.int k a), .dv (.int k' b) => (match isShift op || ikEq k k' with
      | true => binE op k a b fun v => K (s.putF d v)
      | false => false)
    | _, _ => false)

noncomputable def op_eqn (_ : Tb O) (_ : CallT O) (d : Option Nat) (k : EK) (neg : Bool) (x : X) (y : X) (s : St O) (K : Kt O) : Bool := (match veqn k (vecLen s (s.evF x) + vecLen s (s.evF y)) (isLitNil x || isLitNil y) (s.evF x) (s.evF y) with
    | .known b => K (s.putF d (.dv (.bool (match neg, b with | true, true => false | true, false => true | false, b => b))))
    | .bools a b => frcB (vnot std neg (a == b)) fun v => K (s.putF d (.dv (.bool v)))
    | .some _ => hasVec s (s.evF x) && (hasVec s (s.evF y) && (K (s.putF d (.dv (.bool (vnot std neg false)))) && (posSl s (s.evF x) (s.evF y) || K (s.putF d (.dv (.bool (vnot std neg true)))))))
    | .no => false)

noncomputable def op_un (_ : Tb O) (_ : CallT O) (d : Option Nat) (op : UnOp) (x : X) (s : St O) (K : Kt O) : Bool := (match op, s.evF x with
    | .not, .dv (.bool b) => K (s.putF d (.dv (.bool (match b with | true => false | false => true))))
    | .neg, .dv (.int k n) => frcI (unI .neg k n) fun v => K (s.putF d (.dv (.int k v)))
    | .xor, .dv (.int k n) => frcI (unI .xor k n) fun v => K (s.putF d (.dv (.int k v)))
    | _, _ => false)

noncomputable def op_conv (_ : Tb O) (_ : CallT O) (d : Option Nat) (k : IntKind) (x : X) (s : St O) (K : Kt O) : Bool := (match s.evF x with
    | .dv (.int _ n) => frcI (k.wrap n) fun v => K (s.putF d (.dv (.int k v)))
    | _ => false)

noncomputable def op_fldA (_ : Tb O) (_ : CallT O) (d : Option Nat) (off : Nat) (x : X) (s : St O) (K : Kt O) : Bool := (match s.evF x with
    | .ptr h o => frcN (o + off) fun o' => K (s.putF d (.ptr h o'))
    | .pat h o i n sz f => frcN (f + off) fun f' => K (s.putF d (.pat h o i n sz f'))
    | .pseq n sz at_ i f => frcN (f + off) fun f' => K (s.putF d (.pseq n sz at_ i f'))
    | _ => false)

noncomputable def op_idxA (_ : Tb O) (_ : CallT O) (d : Option Nat) (n : Nat) (sz : Nat) (x : X) (i : X) (s : St O) (K : Kt O) : Bool := (match s.evF x, s.evF i with
    | .ptr h o, .dv (.int _ i) => inbB i n && frcN i.toNat fun k => K (s.putF d (.pat h o k n sz 0))
    | .gp g, .dv (.int _ i) => (match Objs.gd O g with
      | some (n', sz', at_) => (match Nat.beq n' n && Nat.beq sz' sz with
        | true => inbB i n && frcN i.toNat fun k => K (s.putF d (.pseq n sz at_ k 0))
        | false => false)
      | none => false)
    | _, _ => false)

noncomputable def op_idxS (_ : Tb O) (_ : CallT O) (d : Option Nat) (sz : Nat) (x : X) (i : X) (s : St O) (K : Kt O) : Bool := (match s.evF x, s.evF i with
    | .vec h, .dv (.int _ i) => (match fget s.mem h with
      | some (.vec n _ _) => inbB i n && frcN i.toNat fun k => K (s.putF d (.pat h 0 k n sz 0))
      | _ => false)
    | .dv (.seq n sz' at_), .dv (.int _ i) => Nat.beq sz' sz && (inbB i n && frcN i.toNat fun k => K (s.putF d (.pseq n sz at_ k 0)))
    | .win h lo n _ sz', .dv (.int _ i) => (match fget s.mem h with
      | some (.vec N _ _) => Nat.beq sz' sz && (Nat.ble (lo + n) N && (inbB i n && frcN i.toNat fun k => frcN (lo + k) fun k' => K (s.putF d (.pat h 0 k' N sz 0))))
      | _ => false)
    | _, _ => false)

noncomputable def op_ld (_ : Tb O) (_ : CallT O) (d : Option Nat) (n_ : Option Nat) (x_ : X) (s : St O) (K : Kt O) : Bool :=
  match n_, x_ with
  | none, x => (match s.evF x with
    | .ptr h o => (match fget s.mem h with
      | some (.blk ss) => (match segGet ss o with | some v => K (s.putF d v) | none => false)
      | _ => false)
    | .pat h o i n sz f => (match fget s.mem h with
      | some (.blk ss) => (match segArr ss o with
        | some (n', sz', at_) => (match Nat.beq n' n && (Nat.beq sz' sz && Nat.blt f sz) with | true => K (s.putF d (at_ i f)) | false => false)
        | none => false)
      | some (.vec n' sz' at_) => (match Nat.beq n' n && (Nat.beq sz' sz && (Nat.beq o 0 && Nat.blt f sz)) with | true => K (s.putF d (at_ i f)) | false => false)
      | _ => false)
    | .pseq _ sz at_ i f => (match Nat.blt f sz with | true => K (s.putF d (.dv (at_ i f))) | false => false)
    | _ => false)
  | (some m), x => (match s.evF x with
    | .ptr h o => (match fget s.mem h with
      | some (.blk ss) => (match segTake ss o m with | some l => K (s.putF d (.agg l)) | none => false)
      | _ => false)
    | .pat h o i n sz f => (match fget s.mem h with
      | some (.blk ss) => (match segArr ss o with
        | some (n', sz', at_) => (match Nat.beq n' n && (Nat.beq sz' sz && Nat.ble (f + m) sz) with | true => K (s.putF d (.agg (takeAtS at_ i f m))) | false => false)
        | none => false)
      | some (.vec n' sz' at_) => (match Nat.beq n' n && (Nat.beq sz' sz && (Nat.beq o 0 && Nat.ble (f + m) sz)) with | true => K (s.putF d (.agg (takeAtS at_ i f m))) | false => false)
      | _ => false)
    | .pseq _ sz at_ i f => (match Nat.ble (f + m) sz with | true => K (s.putF d (.agg (takeAt at_ i f m))) | false => false)
    | _ => false)

noncomputable def op_st (_ : Tb O) (_ : CallT O) (d : Option Nat) (m : Nat) (x : X) (v : X) (s : St O) (K : Kt O) : Bool := (match s.evF x, (s.evF v).cells with
    | .ptr h o, some l => (match fget s.mem h with
      | some (.blk ss) => (match okSt0 l m o with
        | true => (match segPut ss o l with | some ss' => K ((s.msetF h (.blk ss')).putF d .junk) | none => false)
        | false => false)
      | _ => false)
    | .pat h o i n sz f, some l => (match fget s.mem h with
      | some (.blk ss) => (match segArr ss o with
        | some (n', sz', at_) => (match okSt l m && (Nat.beq n' n && (Nat.beq sz' sz && Nat.ble (f + l.length) sz)) with
          | true => K ((s.msetF h (.blk (segArrSet ss o (updRow at_ i f l)))).putF d .junk)
          | false => false)
        | none => false)
      | some (.vec n' sz' at_) => (match okSt l m && (Nat.beq n' n && (Nat.beq sz' sz && (Nat.beq o 0 && Nat.ble (f + l.length) sz))) with
          | true => K ((s.msetF h (.vec n sz (updRow at_ i f l))).putF d .junk)
          | false => false)
      | _ => false)
    | _, _ => false)

noncomputable def op_new (_ : Tb O) (_ : CallT O) (d : Option Nat) (sh : List (Option (Nat × Nat))) (z : List DV) (s : St O) (K : Kt O) : Bool := K ((s.madd (.blk (shaped sh (dvs z)))).putF d (.ptr s.mem.length 0))

noncomputable def op_box (_ : Tb O) (_ : CallT O) (d : Option Nat) (n : Nat) (sh : List (Option (Nat × Nat))) (x : X) (s : St O) (K : Kt O) : Bool := (match (s.evF x).cells with
    | some l => (match Nat.beq l.length n with | true => K ((s.madd (.blk (shaped sh l))).putF d (.ptr s.mem.length 0)) | false => false)
    | none => false)

noncomputable def op_build (_ : Tb O) (_ : CallT O) (d : Option Nat) (z : List DV) (ps : List (Nat × Nat × X)) (s : St O) (K : Kt O) : Bool := (match partsV s ps (dvs z) with | some l => K (s.putF d (.agg l)) | none => false)

noncomputable def op_mkS (_ : Tb O) (_ : CallT O) (d : Option Nat) (sz : Nat) (n : Nat) (z : List DV) (ps : List (Nat × Nat × X)) (s : St O) (K : Kt O) : Bool := (match partsV s ps (repl (dvs z) n) with
    | some l => (match allCells l with | true => K ((s.madd (.vec n sz (listAt sz l))).putF d (.vec s.mem.length)) | false => false)
    | none => false)

noncomputable def op_fld (_ : Tb O) (_ : CallT O) (d : Option Nat) (off_ : Nat) (n_ : Option Nat) (x_ : X) (s : St O) (K : Kt O) : Bool :=
  match off_, n_, x_ with
  | off, none, x => (match s.evF x with
    | .agg l => (match lget l off with | some v => K (s.putF d v) | none => false)
    | _ => false)
  | off, (some m), x => (match s.evF x with
    | .agg l => (match Nat.ble (off + m) l.length with | true => K (s.putF d (.agg ((l.drop off).take m))) | false => false)
    | _ => false)

noncomputable def op_ext (_ : Tb O) (_ : CallT O) (d : Option Nat) (x : X) (i : Nat) (s : St O) (K : Kt O) : Bool := (match s.evF x with
    | .tup l => (match lget l i with | some v => K (s.putF d v) | none => false)
    | _ => false)

noncomputable def op_len (_ : Tb O) (_ : CallT O) (d : Option Nat) (str_ : Bool) (x_ : X) (s : St O) (K : Kt O) : Bool :=
  match str_, x_ with
  | true, x => (match s.evF x with
    | .dv (.str b) => frcN b.size fun n => K (s.putF d (.dv (.int .i64 (Int.ofNat n))))
    | _ => false)
  | false, x => (match s.evF x with
    | .dv .nils => K (s.putF d (.dv (.int .i64 0)))
    | .dv .emp => K (s.putF d (.dv (.int .i64 0)))
    | .dv (.seq n _ _) => frcN n fun n => K (s.putF d (.dv (.int .i64 (Int.ofNat n))))
    | .vec h => (match fget s.mem h with | some (.vec n _ _) => frcN n fun n => K (s.putF d (.dv (.int .i64 (Int.ofNat n)))) | _ => false)
    | .win _ _ n _ _ => frcN n fun n => K (s.putF d (.dv (.int .i64 (Int.ofNat n))))
    | _ => false)

noncomputable def op_app (_ : Tb O) (_ : CallT O) (d : Option Nat) (sz : Nat) (b : Nat) (x : X) (y : X) (s : St O) (K : Kt O) : Bool := (match s.evF x, appSrc s sz (s.evF y) with
    | .dv .nils, some (m, bt) => (match roomB m b with | true => K ((s.madd (.vec m sz bt)).putF d (.vec s.mem.length)) | false => false)
    | .dv .emp, some (m, bt) => (match roomB m b with | true => K ((s.madd (.vec m sz bt)).putF d (.vec s.mem.length)) | false => false)
    | .vec h, some (m, bt) => (match fget s.mem h with
      | some (.vec n sz' at_) => (match Nat.beq sz' sz && roomB (n + m) b with
        | true => frcN (n + m) fun nm => K (((s.msetF h .gone).madd (.vec nm sz (appAt std n at_ bt))).putF d (.vec s.mem.length))
        | false => false)
      | _ => false)
    | .win h lo n none sz'', some (m, bt) => (match fget s.mem h with
      | some (.vec N sz' at_) => Nat.beq sz' sz && (Nat.beq sz'' sz && (Nat.ble (lo + n + m) N && frcN (n + m) fun nm =>
          K ((s.msetF h (.vec N sz (cpyAt (lo + n) m at_ bt))).putF d (.win h lo nm none sz))))
      | _ => false)
    | .win h lo n (some k) sz'', some (m, bt) => (match fget s.mem h with
      | some (.vec N sz' at_) => Nat.beq sz' sz && (Nat.beq sz'' sz && (Nat.ble (lo + n) N && (Nat.blt k (n + m) && (roomB (n + m) b && frcN (n + m) fun nm =>
          K ((s.madd (.vec nm sz (appAt std n (shiftAt std lo at_) bt))).putF d (.vec s.mem.length))))))
      | _ => false)
    | x', none => (match winOf s sz (s.evF y), x' with
      | some (_, lo2, n2, N2, bt), .dv .nils => Nat.ble (lo2 + n2) N2 && (roomB n2 b && K ((s.madd (.vec n2 sz (shiftAt std lo2 bt))).putF d (.vec s.mem.length)))
      | some (_, lo2, n2, N2, bt), .dv .emp => Nat.ble (lo2 + n2) N2 && (roomB n2 b && K ((s.madd (.vec n2 sz (shiftAt std lo2 bt))).putF d (.vec s.mem.length)))
      | some (_, lo2, n2, N2, bt), .win h lo n none sz'' => (match fget s.mem h with
        | some (.vec N sz' at_) => Nat.beq sz' sz && (Nat.beq sz'' sz && (Nat.ble (lo2 + n2) N2 && (Nat.ble (lo + n + n2) N && frcN (n + n2) fun nm =>
            K ((s.msetF h (.vec N sz (cpyAt (lo + n) n2 at_ (shiftAt std lo2 bt)))).putF d (.win h lo nm none sz)))))
        | _ => false)
      | _, _ => false)
    | _, _ => false)

noncomputable def op_nchk (T : Tb O) (_ : CallT O) (d : Option Nat) (x : X) (s : St O) (K : Kt O) : Bool := (match s.evF x with
    | .ptr h o => K (s.putF d (.ptr h o))
    | .pat h o i n sz f => K (s.putF d (.pat h o i n sz f))
    | .pseq n sz at_ i f => K (s.putF d (.pseq n sz at_ i f))
    | .fn f l => K (s.putF d (.fn f l))
    | .bfn f l => K (s.putF d (.bfn f l))
    | .mfn m (.ifc t v) => (match T.me t m with | some _ => K (s.putF d (.mfn m (.ifc t v))) | none => false)
    | .ifc t v => K (s.putF d (.ifc t v))
    | _ => false)

noncomputable def op_mki (_ : Tb O) (_ : CallT O) (d : Option Nat) (t : TypeId) (x : X) (s : St O) (K : Kt O) : Bool := K (s.putF d (.ifc t (s.evF x)))

noncomputable def op_mkf (_ : Tb O) (_ : CallT O) (d : Option Nat) (f : FuncId) (l : List X) (s : St O) (K : Kt O) : Bool := K (s.putF d (.fn f (l.map s.evF)))

noncomputable def op_mkb (_ : Tb O) (_ : CallT O) (d : Option Nat) (f : FuncId) (l : List X) (s : St O) (K : Kt O) : Bool := K (s.putF d (.bfn f (l.map s.evF)))

noncomputable def op_mkm (_ : Tb O) (_ : CallT O) (d : Option Nat) (m : String) (x : X) (s : St O) (K : Kt O) : Bool := K (s.putF d (.mfn m (s.evF x)))

noncomputable def op_idxV (_ : Tb O) (_ : CallT O) (d : Option Nat) (n : Nat) (x : X) (i : X) (s : St O) (K : Kt O) : Bool := (match s.evF x, s.evF i with
    | .agg l, .dv (.int _ i) => (match intsOf l with
      | some (k, ns) => Nat.beq ns.length n && (inbB i n && frcN i.toNat fun j => frcI (ns.getD j 0) fun v => K (s.putF d (.dv (.int k v))))
      | none => false)
    | _, _ => false)

noncomputable def op_call (_ : Tb O) (call : CallT O) (d : Option Nat) (f : FuncId) (l : List X) (s : St O) (K : Kt O) : Bool := call f (l.map s.evF) s.mem fun r m => K (St.putF ⟨s.env, m⟩ d r)

noncomputable def op_callv (_ : Tb O) (call : CallT O) (d : Option Nat) (x : X) (l : List X) (s : St O) (K : Kt O) : Bool := (match s.evF x with
    | .fn f c => call f ((l ++ c.map X.c).map s.evF) s.mem fun r m => K (St.putF ⟨s.env, m⟩ d r)
    | .bfn f c => call f ((c.map X.c ++ l).map s.evF) s.mem fun r m => K (St.putF ⟨s.env, m⟩ d r)
    | _ => false)

noncomputable def op_inv (T : Tb O) (call : CallT O) (d : Option Nat) (r : X) (m : String) (l : List X) (s : St O) (K : Kt O) : Bool := (match s.evF r with
    | .ifc t v => (match T.me t m with
      | some f => call f ((X.c v :: l).map s.evF) s.mem fun r m => K (St.putF ⟨s.env, m⟩ d r)
      | none => false)
    | _ => false)

noncomputable def op_slc (_ : Tb O) (_ : CallT O) (d : Option Nat) (sz : Nat) (x : X) (lo : Option X) (hi : Option X) (mx : Option X) (s : St O) (K : Kt O) : Bool := (match s.evF x, evO s mx with
    | .dv (.seq n sz' at_), none => (match bnd 0 (evO s lo), bnd (std.ofN n) (evO s hi) with
      | some l, some h => Nat.beq sz' sz && (slbB l h (Int.ofNat n) (Int.ofNat n) && frcN (h.toNat - l.toNat) fun k => frcN l.toNat fun l' => K (s.putF d (.dv (.seq k sz fun i f => at_ (l' + i) f))))
      | _, _ => false)
    | .dv (.seq _ _ _), some (.dv (.int _ 0)) => (match evO s lo, evO s hi with
      | none, some (.dv (.int _ 0)) => K (s.putF d (.dv .emp))
      | some (.dv (.int _ 0)), some (.dv (.int _ 0)) => K (s.putF d (.dv .emp))
      | _, _ => false)
    | .vec h, none => (match fget s.mem h with
      | some (.vec n sz' _) => (match bnd 0 (evO s lo), bnd (std.ofN n) (evO s hi) with
        | some l, some u => Nat.beq sz' sz && (slbB l u (Int.ofNat n) (Int.ofNat n) && frcN l.toNat fun l' => frcN (u.toNat - l.toNat) fun k => K (s.putF d (.win h l' k none sz)))
        | _, _ => false)
      | _ => false)
    | .vec h, some m => (match fget s.mem h with
      | some (.vec n sz' _) => (match bnd 0 (evO s lo), evO s hi, m with
        | some 0, some (.dv (.int _ 0)), .dv (.int _ 0) => K (s.putF d (.dv .emp))
        | some l, some (.dv (.int _ u)), .dv (.int _ m) => Nat.beq sz' sz && (slbB l u m (Int.ofNat n) && frcN l.toNat fun l' => frcN (u.toNat - l.toNat) fun k => frcN (m.toNat - l.toNat) fun c => K (s.putF d (.win h l' k (some c) sz)))
        | _, _, _ => false)
      | _ => false)
    | .win h lo' n c sz', none => (match fget s.mem h, c with
      | some (.vec N _ _), none => (match bnd 0 (evO s lo), bnd (std.ofN n) (evO s hi) with
        | some l, some u => Nat.beq sz' sz && (slbB l u (Int.ofNat (N - lo')) (Int.ofNat (N - lo')) && frcN (lo' + l.toNat) fun l' => frcN (u.toNat - l.toNat) fun k => K (s.putF d (.win h l' k none sz)))
        | _, _ => false)
      | some (.vec _ _ _), some c => (match bnd 0 (evO s lo), bnd (std.ofN n) (evO s hi) with
        | some l, some u => Nat.beq sz' sz && (slbB l u (Int.ofNat n) (Int.ofNat n) && frcN (lo' + l.toNat) fun l' => frcN (u.toNat - l.toNat) fun k => frcN (c - l.toNat) fun c => K (s.putF d (.win h l' k (some c) sz)))
        | _, _ => false)
      | _, _ => false)
    | .win h lo' n _ sz', some m => (match fget s.mem h with
      | some (.vec _ _ _) => (match bnd 0 (evO s lo), evO s hi, m with
        | some l, some (.dv (.int _ u)), .dv (.int _ m) => Nat.beq sz' sz && (slbB l u m (Int.ofNat n) && frcN (lo' + l.toNat) fun l' => frcN (u.toNat - l.toNat) fun k => frcN (m.toNat - l.toNat) fun c => K (s.putF d (.win h l' k (some c) sz)))
        | _, _, _ => false)
      | _ => false)
    | _, _ => false)

noncomputable def op_ssl (_ : Tb O) (_ : CallT O) (d : Option Nat) (x : X) (lo : Option X) (hi : Option X) (s : St O) (K : Kt O) : Bool := (match s.evF x with
    | .dv (.str b) => (match bnd 0 (evO s lo), bnd (std.ofN (std.slen b)) (evO s hi) with
      | some l, some h => slbB l h (Int.ofNat b.size) (Int.ofNat b.size) && K (s.putF d (.dv (.str (b.extract l.toNat h.toNat))))
      | _, _ => false)
    | _ => false)

noncomputable def op_mkM (_ : Tb O) (_ : CallT O) (d : Option Nat) (n : Nat) (s : St O) (K : Kt O) : Bool := K ((s.madd (.mset n fun _ => false)).putF d (.mp s.mem.length))

noncomputable def op_mlk (T : Tb O) (_ : CallT O) (d : Option Nat) (t : TypeId) (n : Nat) (x : X) (k : X) (s : St O) (K : Kt O) : Bool := (match s.evF x, s.evF k with
    | .mp h, .agg l => (match fget s.mem h, keyInts l with
      | some (.mset n' has), some ks => (match Nat.beq n' n && (Nat.beq ks.length n && T.sk t n ks) with
        | true => frcB (has ks) fun v => K (s.putF d (.tup [.agg [], .dv (.bool v)]))
        | false => false)
      | _, _ => false)
    | _, _ => false)

noncomputable def op_mup (T : Tb O) (_ : CallT O) (d : Option Nat) (t : TypeId) (n : Nat) (m : X) (k : X) (v : X) (s : St O) (K : Kt O) : Bool := (match s.evF m, s.evF k, s.evF v with
    | .mp h, .agg l, .agg [] => (match fget s.mem h, keyInts l with
      | some (.mset n' has), some ks => (match Nat.beq n' n && (Nat.beq ks.length n && T.sk t n ks) with
        | true => K ((s.msetF h (.mset n (addKey has ks))).putF d .junk)
        | false => false)
      | _, _ => false)
    | _, _, _ => false)

noncomputable def op_pu (_ : Tb O) (_ : CallT O) (d : Option Nat) (p : Pu) (xs : List X) (s : St O) (K : Kt O) : Bool := (match pdata (xs.map s.evF) with
    | some ds => (match puT p ds with
      | some .b => puCB p ds && frcB (puB p ds) fun v => K (s.putF d (.dv (.bool v)))
      | some (.i k) => puCB p ds && frcI (puI p ds) fun v => K (s.putF d (.dv (.int k v)))
      | some (.f k) => puCB p ds && frcN (puF p ds) fun v => K (s.putF d (.dv (.flt k v)))
      | some .s => puCB p ds && K (s.putF d (.dv (.str (puS p ds))))
      | none => false)
    | none => false)

noncomputable def op_cpl (_ : Tb O) (_ : CallT O) (d : Option Nat) (x : X) (y : X) (s : St O) (K : Kt O) : Bool := (match s.evF x, s.evF y with
    | .dv (.flt k a), .dv (.flt k' b) => (match fkEq k k' with | true => K (s.putF d (.dv (.cpx k a b))) | false => false)
    | _, _ => false)

noncomputable def op_cpart (_ : Tb O) (_ : CallT O) (d : Option Nat) (im : Bool) (x : X) (s : St O) (K : Kt O) : Bool := (match s.evF x with
    | .dv (.cpx k a b) => (match im with | true => K (s.putF d (.dv (.flt k b))) | false => K (s.putF d (.dv (.flt k a))))
    | _ => false)

noncomputable def op_mks (_ : Tb O) (_ : CallT O) (d : Option Nat) (sz : Nat) (b : Nat) (z : List DV) (n : X) (c : X) (s : St O) (K : Kt O) : Bool := (match s.evF n, s.evF c with
    | .dv (.int _ n), .dv (.int _ c) => mkB n c b && frcN n.toNat fun n' => K ((s.madd (.vec n' sz fun _ f => zget z f)).putF d (.vec s.mem.length))
    | _, _ => false)

noncomputable def op_cpy (_ : Tb O) (_ : CallT O) (d : Option Nat) (sz : Nat) (x : X) (y : X) (s : St O) (K : Kt O) : Bool := (match winOf s sz (s.evF x), appSrc s sz (s.evF y) with
    | some (h, lo, n, N, at_), some (m, bt) => Nat.ble (lo + n) N && frcN (Nat.min m n) fun k => K ((s.msetF h (.vec N sz (cpyAt lo k at_ bt))).putF d (.dv (.int .i64 (Int.ofNat k))))
    | some (h, lo, n, N, at_), none => (match winOf s sz (s.evF y) with
      | some (_, lo2, n2, N2, bt) => Nat.ble (lo + n) N && (Nat.ble (lo2 + n2) N2 && frcN (Nat.min n2 n) fun k => K ((s.msetF h (.vec N sz (cpyAt lo k at_ (shiftAt std lo2 bt)))).putF d (.dv (.int .i64 (Int.ofNat k)))))
      | none => false)
    | none, _ => false)

noncomputable def op_clr (_ : Tb O) (_ : CallT O) (d : Option Nat) (sz : Nat) (z : List DV) (x : X) (s : St O) (K : Kt O) : Bool := (match winOf s sz (s.evF x) with
    | some (h, lo, n, N, at_) => Nat.ble (lo + n) N && K ((s.msetF h (.vec N sz (cpyAt lo n at_ fun _ f => zget z f))).putF d (.tup []))
    | none => (match s.evF x with
      | .dv .nils => K (s.putF d (.tup []))
      | .dv .emp => K (s.putF d (.tup []))
      | _ => false))

noncomputable def op_eqa (T : Tb O) (_ : CallT O) (d : Option Nat) (t : TypeId) (n : Nat) (neg : Bool) (x : X) (y : X) (s : St O) (K : Kt O) : Bool := (match s.evF x, s.evF y with
    | .agg l, .agg r => dvSames l r && (Nat.beq l.length n && (T.ea t n && frcB (vnot std neg (dvEqs l r)) fun v => K (s.putF d (.dv (.bool v)))))
    | _, _ => false)

noncomputable def op_tas (_ : Tb O) (_ : CallT O) (d : Option Nat) (t : TypeId) (z : DV) (ok : Bool) (x : X) (s : St O) (K : Kt O) : Bool := (match s.evF x, ok with
    | .ifc t' v, true => (match Nat.beq t' t with | true => K (s.putF d (.tup [v, .dv (.bool true)])) | false => K (s.putF d (.tup [.dv z, .dv (.bool false)])))
    | .dv .nili, true => K (s.putF d (.tup [.dv z, .dv (.bool false)]))
    | .ifc t' v, false => (match Nat.beq t' t with | true => K (s.putF d v) | false => false)
    | _, _ => false)

noncomputable def opE (T : Tb O) (call : CallT O) (d : Option Nat) (ins : Ins) (s : St O) (K : Kt O) : Bool :=
  match ins with
  | .mov a0 => op_mov T call d a0 s K
  | .pick a0 a1 a2 => op_pick T call d a0 a1 a2 s K
  | .bin a0 a1 a2 => op_bin T call d a0 a1 a2 s K
  | .eqn a0 a1 a2 a3 => op_eqn T call d a0 a1 a2 a3 s K
  | .un a0 a1 => op_un T call d a0 a1 s K
  | .conv a0 a1 => op_conv T call d a0 a1 s K
  | .fldA a0 a1 => op_fldA T call d a0 a1 s K
  | .idxA a0 a1 a2 a3 => op_idxA T call d a0 a1 a2 a3 s K
  | .idxS a0 a1 a2 => op_idxS T call d a0 a1 a2 s K
  | .ld a0 a1 => op_ld T call d a0 a1 s K
  | .st a0 a1 a2 => op_st T call d a0 a1 a2 s K
  | .new a0 a1 => op_new T call d a0 a1 s K
  | .box a0 a1 a2 => op_box T call d a0 a1 a2 s K
  | .build a0 a1 => op_build T call d a0 a1 s K
  | .mkS a0 a1 a2 a3 => op_mkS T call d a0 a1 a2 a3 s K
  | .fld a0 a1 a2 => op_fld T call d a0 a1 a2 s K
  | .ext a0 a1 => op_ext T call d a0 a1 s K
  | .len a0 a1 => op_len T call d a0 a1 s K
  | .app a0 a1 a2 a3 => op_app T call d a0 a1 a2 a3 s K
  | .nchk a0 => op_nchk T call d a0 s K
  | .mki a0 a1 => op_mki T call d a0 a1 s K
  | .mkf a0 a1 => op_mkf T call d a0 a1 s K
  | .mkb a0 a1 => op_mkb T call d a0 a1 s K
  | .mkm a0 a1 => op_mkm T call d a0 a1 s K
  | .idxV a0 a1 a2 => op_idxV T call d a0 a1 a2 s K
  | .call a0 a1 => op_call T call d a0 a1 s K
  | .callv a0 a1 => op_callv T call d a0 a1 s K
  | .inv a0 a1 a2 => op_inv T call d a0 a1 a2 s K
  | .slc a0 a1 a2 a3 a4 => op_slc T call d a0 a1 a2 a3 a4 s K
  | .ssl a0 a1 a2 => op_ssl T call d a0 a1 a2 s K
  | .mkM a0 => op_mkM T call d a0 s K
  | .mlk a0 a1 a2 a3 => op_mlk T call d a0 a1 a2 a3 s K
  | .mup a0 a1 a2 a3 a4 => op_mup T call d a0 a1 a2 a3 a4 s K
  | .pu a0 a1 => op_pu T call d a0 a1 s K
  | .cpl a0 a1 => op_cpl T call d a0 a1 s K
  | .cpart a0 a1 => op_cpart T call d a0 a1 s K
  | .mks a0 a1 a2 a3 a4 => op_mks T call d a0 a1 a2 a3 a4 s K
  | .cpy a0 a1 a2 => op_cpy T call d a0 a1 a2 s K
  | .clr a0 a1 a2 => op_clr T call d a0 a1 a2 s K
  | .eqa a0 a1 a2 a3 a4 => op_eqa T call d a0 a1 a2 a3 a4 s K
  | .tas a0 a1 a2 a3 => op_tas T call d a0 a1 a2 a3 s K
  | .other => false

def gE (g : Option (Option Nat × Bool)) (s : St O) (run skip : St O → Bool) : Bool :=
  match g with
  | none => run s
  | some (some d, b) => (match lget s.env d with
    | some (.dv (.bool true)) => (match b with | true => run (s.put (some d) (.dv (.bool true))) | false => skip (s.put (some d) (.dv (.bool true))))
    | some (.dv (.bool false)) => (match b with | true => skip (s.put (some d) (.dv (.bool false))) | false => run (s.put (some d) (.dv (.bool false))))
    | some (.tup _) => skip s
    | _ => false)
  | some (none, _) => false

noncomputable def lE (T : Tb O) (call : CallT O) : List Op1 → St O → Kt O → Bool
  | [], s, K => K s
  | o :: r, s, K => gE o.g s (fun s => opE T call o.d o.i s fun s' => lE T call r s' K) (fun s => lE T call r (s.put o.d (.tup [])) K)

def andE : DT → Bool → Bool → Bool
  | .none, p, _ => p
  | _, p, q => p && q

def dvB : DV → DV → Bool
  | .int k a, .int k' b => ikEq k k' && decide (a = b)
  | .bool true, .bool true => true
  | .bool false, .bool false => true
  | .nilp, .nilp => true
  | .nils, .nils => true
  | .nili, .nili => true
  | .nilf, .nilf => true
  | .nilm, .nilm => true
  | _, _ => false

/-- Are two values surely the same? -/
def svB : Nat → SV → SV → Bool
  | 0, _, _ => false
  | n + 1, a, b => (match a, b with
    | .dv a, .dv b => dvB a b
    | .ptr h o, .ptr h' o' => Nat.beq h h' && Nat.beq o o'
    | .pat h o i m sz f, .pat h' o' i' m' sz' f' => Nat.beq h h' && (Nat.beq o o' && (Nat.beq i i' && (Nat.beq m m' && (Nat.beq sz sz' && Nat.beq f f'))))
    | .vec h, .vec h' => Nat.beq h h'
    | .mp h, .mp h' => Nat.beq h h'
    | .gp h, .gp h' => Nat.beq h h'
    | .agg l, .agg r => all2 (svB n) l r
    | .tup l, .tup r => all2 (svB n) l r
    | .fn f l, .fn g r => Nat.beq f g && all2 (svB n) l r
    | .ifc t x, .ifc u y => Nat.beq t u && svB n x y
    | _, _ => false)

def chkE (aft : List Nat) (mem : List (Chunk O)) : List (Nat × Rd) → Bool
  | [] => true
  | (k, r) :: R => (match memN k aft || !r.open with
    | true => chkE aft mem R
    | false => (match lget mem r.h with
      | some c => (match ldC c r.p r.n with | some v => svB 9 v r.sv && chkE aft mem R | none => false)
      | none => false))

noncomputable def tE (T : Tb O) (call : CallT O) : DT → List (Nat × Rd) → St O → Kt O → Bool
  | .done, _, s, K => K s
  | .take i o rest, R, s, K => gE o.g s (fun s => opE T call o.d o.i s fun s' => tE T call rest (addR i (rdOf s o.i) R) s' K) (fun s => tE T call rest R (s.put o.d (.tup [])) K)
  | .alt _ aft o rest more, R, s, K =>
    andE more (gE o.g s (fun s => opE T call o.d o.i ⟨s.env, maskM (heldOf aft R) s.mem⟩ fun s' => (match unmaskM s.mem (heldOf aft R) s'.mem with
      | some m => chkE aft m R && tE T call rest (keepR aft R) ⟨s'.env, m⟩ K
      | none => false)) (fun s => tE T call rest (keepR aft R) (s.put o.d (.tup [])) K))
    (tE T call more R s K)
  | .none, _, _, _ => true
  | .bad, _, _, _ => false

abbrev Kx (O : Type) := Ex → St O → Bool

/-- What a deeper level does: calls; going on at a label of a scope. -/
structure Ev (O : Type) where
  call : CallT O
  res : IC → Nat → St O → Kx O → Bool

def scopeK (res : IC → Nat → St O → Kx O → Bool) (b : IC) (K : Kx O) : Kx O := fun e s => match e with
  | .goto l => res b l s K
  | .normal => K .normal s
  | .exit i => K (.exit i) s
  | .ret => K .ret s

def loopE (body : St O → Kx O → Bool) : Nat → St O → Kx O → Bool
  | 0, _, _ => false
  | n + 1, s, K => body s fun e s' => (match e with
    | .normal => loopE body n s' K
    | .exit i => K (.exit i) s'
    | .goto l => K (.goto l) s'
    | .ret => K .ret s')

noncomputable def cE (T : Tb O) (R : Nat) (ev : Ev O) : IC → St O → Kx O → Bool
  | .skip, s, K => K .normal s
  | .reg l, s, K => lE T ev.call l s (K .normal)
  | .drw t, s, K => tE T ev.call t [] s (K .normal)
  | .seq a b, s, K => cE T R ev a s fun e s' => (match e with
    | .normal => cE T R ev b s' K
    | .exit i => K (.exit i) s'
    | .goto l => K (.goto l) s'
    | .ret => K .ret s')
  | .cond c a b, s, K => (match s.ev c with
    | .dv (.bool true) => cE T R ev a s K
    | .dv (.bool false) => cE T R ev b s K
    | _ => false)
  | .block id c, s, K => cE T R ev c s fun e s' => (match e with
    | .normal => K .normal s'
    | .exit i => (match Nat.beq i id with | true => K .normal s' | false => K (.exit i) s')
    | .goto l => K (.goto l) s'
    | .ret => K .ret s')
  | .loop c, s, K => loopE (fun s K => cE T R ev c s K) R s K
  | .exit id, s, K => K (.exit id) s
  | .ret, s, K => K .ret s
  | .label _, s, K => K .normal s
  | .goto l, s, K => K (.goto l) s
  | .scope c, s, K => cE T R ev c s (scopeK ev.res c K)
  | .cut _, _, _ => false
  | .bad, _, _ => false

def bodyE (rs : List RV) (K : SV → List (Chunk O) → Bool) : Kx O := fun e s => match e with
  | .normal => (match resL s rs with | some l => K (ret1 l) s.mem | none => false)
  | .ret => (match resL s rs with | some l => K (ret1 l) s.mem | none => false)
  | _ => false

/-- Calls and jumps, so many levels deep. -/
noncomputable def evE (T : Tb O) (R : Nat) : Nat → Ev O
  | 0 => ⟨fun _ _ _ _ => false, fun _ _ _ _ => false⟩
  | n + 1 => ⟨fun f args m K => (match T.fn f with
      | some e => cE T R (evE T R n) e.ic ⟨args ++ junks (e.nt - args.length), m⟩ (bodyE e.rs K)
      | none => (match T.pm f with
        | some g => (match g args m with | some (r, m') => K r m' | none => false)
        | none => false)),
    fun b l s K => (match findI b l with
      | some rest => cE T R (evE T R n) rest s (scopeK (evE T R n).res b K)
      | none => K (.goto l) s)⟩

end Go.V
