/-
  A concrete executor: what a closed call tells, reckoned; every order that is open is gone through.
-/
import Derived.Test.YtibjefabebjfdaaVcgX
namespace Go.V
variable {O : Type} [Objs O]

structure FE where
  nt : Nat
  ic : IC
  rs : List RV

/-- What is known of a program: its functions' code; functions that are told by hand; methods; sets of keys. -/
structure Tb (O : Type) where
  fn : FuncId → Option FE
  pm : FuncId → Option (List SV → List (Chunk O) → Option (SV × List (Chunk O)))
  me : TypeId → String → Option FuncId
  sk : TypeId → Nat → List Int → Bool
  ea : TypeId → Nat → Bool

/-- The code from a label on. -/
def findI : IC → Nat → Option IC
  | .seq a b, l => (match findI a l with
    | some r => some (.seq r b)
    | none => findI b l)
  | .label l', l => (match Nat.beq l' l with | true => some .skip | false => none)
  | .cut b, l => findI b l
  | _, _ => none

def inbB (i : Int) (n : Nat) : Bool :=
  match i with
  | .ofNat k => Nat.blt k n
  | .negSucc _ => false

def nzB : Int → Bool
  | .ofNat 0 => false
  | _ => true

def nnegB : Int → Bool
  | .ofNat _ => true
  | .negSucc _ => false

def roomB (n b : Nat) : Bool := Nat.ble n maxN && Nat.ble (n * b) 140737488355328

noncomputable def frcN {α : Type} (n : Nat) (k : Nat → α) : α := @Nat.rec (fun _ => α) (k 0) (fun m _ => k (Nat.succ m)) n
theorem frcN_eq {α : Type} (n : Nat) (k : Nat → α) : frcN n k = k n := by cases n <;> rfl

noncomputable def frcI {α : Type} (i : Int) (k : Int → α) : α :=
  match i with
  | .ofNat n => frcN n fun m => k (.ofNat m)
  | .negSucc n => frcN n fun m => k (.negSucc m)
theorem frcI_eq {α : Type} (i : Int) (k : Int → α) : frcI i k = k i := by cases i <;> simp only [frcI, frcN_eq]

def frcB {α : Type} (b : Bool) (k : Bool → α) : α :=
  match b with
  | true => k true
  | false => k false
theorem frcB_eq {α : Type} (b : Bool) (k : Bool → α) : frcB b k = k b := by cases b <;> rfl

noncomputable def binE (op : BinOp) (k : IntKind) (a b : Int) (K : SV → Bool) : Bool :=
  match binK op with
  | .arith => frcI (binI op k a b) fun v => K (.dv (.int k v))
  | .div => nzB b && frcI (binI op k a b) fun v => K (.dv (.int k v))
  | .shift => nnegB b && frcI (binI op k a b) fun v => K (.dv (.int k v))
  | .cmp => frcB (cmpI op a b) fun v => K (.dv (.bool v))

abbrev Kt (O : Type) := St O → Bool
abbrev CallT (O : Type) := FuncId → List SV → List (Chunk O) → (SV → List (Chunk O) → Bool) → Bool

/-- Is it clear that a slice that is held against nil has elements? -/
def posSl (s : St O) (x y : SV) : Bool :=
  match x, y with
  | .dv (.seq (_ + 1) _ _), .dv .nils => true
  | .dv .nils, .dv (.seq (_ + 1) _ _) => true
  | .vec h, .dv .nils => Nat.blt 0 (vecLen s (.vec h))
  | .dv .nils, .vec h => Nat.blt 0 (vecLen s (.vec h))
  | .win _ _ (_ + 1) _ _, .dv .nils => true
  | .dv .nils, .win _ _ (_ + 1) _ _ => true
  | _, _ => false

def puCB : Pu → List DV → Bool
  | .f2i k, [.flt f x] => (match f2iF f x with | some n => decide (k.min ≤ n) && decide (n ≤ k.max) | none => false)
  | .sidx, [.str s, .int _ i] => inbB i s.size
  | .scat, [.str a, .str b] => Nat.ble (a.size + b.size) 9223372036854775807
  | .f2i _, _ => false
  | .sidx, _ => false
  | .scat, _ => false
  | _, _ => true

def mkB (n c : Int) (b : Nat) : Bool :=
  match n, c with
  | .ofNat n, .ofNat c => Nat.beq n c && (Nat.ble n maxN && Nat.ble (n * b) 140737488355328)
  | _, _ => false

def slbB (l h m c : Int) : Bool :=
  match l, h, m, c with
  | .ofNat l, .ofNat h, .ofNat m, .ofNat c => Nat.ble l h && (Nat.ble h m && Nat.ble m c)
  | _, _, _, _ => false

noncomputable def opE (T : Tb O) (call : CallT O) (d : Option Nat) (ins : Ins) (s : St O) (K : Kt O) : Bool :=
  match ins with
  | .mov x => K (s.put d (s.ev x))
  | .pick c a b => (match s.ev c with
    | .dv (.bool true) => K (s.put d (s.ev a))
    | .dv (.bool false) => K (s.put d (s.ev b))
    | _ => false)
  | .bin op x y => (match s.ev x, s.ev y with
    | .dv (.int k a), .dv (.int k' b) => (match isShift op || ikEq k k' with
      | true => binE op k a b fun v => K (s.put d v)
      | false => false)
    | _, _ => false)
  | .eqn k neg x y => (match veqn k (vecLen s (s.ev x) + vecLen s (s.ev y)) (isLitNil x || isLitNil y) (s.ev x) (s.ev y) with
    | .known b => K (s.put d (.dv (.bool (match neg, b with | true, true => false | true, false => true | false, b => b))))
    | .bools a b => frcB (vnot std neg (a == b)) fun v => K (s.put d (.dv (.bool v)))
    | .some _ => hasVec s (s.ev x) && (hasVec s (s.ev y) && (K (s.put d (.dv (.bool (vnot std neg false)))) && (posSl s (s.ev x) (s.ev y) || K (s.put d (.dv (.bool (vnot std neg true)))))))
    | .no => false)
  | .un op x => (match op, s.ev x with
    | .not, .dv (.bool b) => K (s.put d (.dv (.bool (match b with | true => false | false => true))))
    | .neg, .dv (.int k n) => frcI (unI .neg k n) fun v => K (s.put d (.dv (.int k v)))
    | .xor, .dv (.int k n) => frcI (unI .xor k n) fun v => K (s.put d (.dv (.int k v)))
    | _, _ => false)
  | .conv k x => (match s.ev x with
    | .dv (.int _ n) => frcI (k.wrap n) fun v => K (s.put d (.dv (.int k v)))
    | _ => false)
  | .fldA off x => (match s.ev x with
    | .ptr h o => frcN (o + off) fun o' => K (s.put d (.ptr h o'))
    | .pat h o i n sz f => frcN (f + off) fun f' => K (s.put d (.pat h o i n sz f'))
    | .pseq n sz at_ i f => frcN (f + off) fun f' => K (s.put d (.pseq n sz at_ i f'))
    | _ => false)
  | .idxA n sz x i => (match s.ev x, s.ev i with
    | .ptr h o, .dv (.int _ i) => inbB i n && frcN i.toNat fun k => K (s.put d (.pat h o k n sz 0))
    | .gp g, .dv (.int _ i) => (match Objs.gd O g with
      | some (n', sz', at_) => (match Nat.beq n' n && Nat.beq sz' sz with
        | true => inbB i n && frcN i.toNat fun k => K (s.put d (.pseq n sz at_ k 0))
        | false => false)
      | none => false)
    | _, _ => false)
  | .idxS sz x i => (match s.ev x, s.ev i with
    | .vec h, .dv (.int _ i) => (match lget s.mem h with
      | some (.vec n _ _) => inbB i n && frcN i.toNat fun k => K (s.put d (.pat h 0 k n sz 0))
      | _ => false)
    | .dv (.seq n sz' at_), .dv (.int _ i) => Nat.beq sz' sz && (inbB i n && frcN i.toNat fun k => K (s.put d (.pseq n sz at_ k 0)))
    | .win h lo n _ sz', .dv (.int _ i) => (match lget s.mem h with
      | some (.vec N _ _) => Nat.beq sz' sz && (Nat.ble (lo + n) N && (inbB i n && frcN i.toNat fun k => frcN (lo + k) fun k' => K (s.put d (.pat h 0 k' N sz 0))))
      | _ => false)
    | _, _ => false)
  | .ld none x => (match s.ev x with
    | .ptr h o => (match lget s.mem h with
      | some (.blk ss) => (match segGet ss o with | some v => K (s.put d v) | none => false)
      | _ => false)
    | .pat h o i n sz f => (match lget s.mem h with
      | some (.blk ss) => (match segArr ss o with
        | some (n', sz', at_) => (match Nat.beq n' n && (Nat.beq sz' sz && Nat.blt f sz) with | true => K (s.put d (at_ i f)) | false => false)
        | none => false)
      | some (.vec n' sz' at_) => (match Nat.beq n' n && (Nat.beq sz' sz && (Nat.beq o 0 && Nat.blt f sz)) with | true => K (s.put d (at_ i f)) | false => false)
      | _ => false)
    | .pseq _ sz at_ i f => (match Nat.blt f sz with | true => K (s.put d (.dv (at_ i f))) | false => false)
    | _ => false)
  | .ld (some m) x => (match s.ev x with
    | .ptr h o => (match lget s.mem h with
      | some (.blk ss) => (match segTake ss o m with | some l => K (s.put d (.agg l)) | none => false)
      | _ => false)
    | .pat h o i n sz f => (match lget s.mem h with
      | some (.blk ss) => (match segArr ss o with
        | some (n', sz', at_) => (match Nat.beq n' n && (Nat.beq sz' sz && Nat.ble (f + m) sz) with | true => K (s.put d (.agg (takeAtS at_ i f m))) | false => false)
        | none => false)
      | some (.vec n' sz' at_) => (match Nat.beq n' n && (Nat.beq sz' sz && (Nat.beq o 0 && Nat.ble (f + m) sz)) with | true => K (s.put d (.agg (takeAtS at_ i f m))) | false => false)
      | _ => false)
    | .pseq _ sz at_ i f => (match Nat.ble (f + m) sz with | true => K (s.put d (.agg (takeAt at_ i f m))) | false => false)
    | _ => false)
  | .st m x v => (match s.ev x, (s.ev v).cells with
    | .ptr h o, some l => (match lget s.mem h with
      | some (.blk ss) => (match okSt0 l m o with
        | true => (match segPut ss o l with | some ss' => K ((s.mset h (.blk ss')).put d .junk) | none => false)
        | false => false)
      | _ => false)
    | .pat h o i n sz f, some l => (match lget s.mem h with
      | some (.blk ss) => (match segArr ss o with
        | some (n', sz', at_) => (match okSt l m && (Nat.beq n' n && (Nat.beq sz' sz && Nat.ble (f + l.length) sz)) with
          | true => K ((s.mset h (.blk (segArrSet ss o (updRow at_ i f l)))).put d .junk)
          | false => false)
        | none => false)
      | some (.vec n' sz' at_) => (match okSt l m && (Nat.beq n' n && (Nat.beq sz' sz && (Nat.beq o 0 && Nat.ble (f + l.length) sz))) with
          | true => K ((s.mset h (.vec n sz (updRow at_ i f l))).put d .junk)
          | false => false)
      | _ => false)
    | _, _ => false)
  | .new sh z => K ((s.madd (.blk (shaped sh (dvs z)))).put d (.ptr s.mem.length 0))
  | .box n sh x => (match (s.ev x).cells with
    | some l => (match Nat.beq l.length n with | true => K ((s.madd (.blk (shaped sh l))).put d (.ptr s.mem.length 0)) | false => false)
    | none => false)
  | .build z ps => (match partsV s ps (dvs z) with | some l => K (s.put d (.agg l)) | none => false)
  | .mkS sz n z ps => (match partsV s ps (repl (dvs z) n) with
    | some l => (match allCells l with | true => K ((s.madd (.vec n sz (listAt sz l))).put d (.vec s.mem.length)) | false => false)
    | none => false)
  | .fld off none x => (match s.ev x with
    | .agg l => (match lget l off with | some v => K (s.put d v) | none => false)
    | _ => false)
  | .fld off (some m) x => (match s.ev x with
    | .agg l => (match Nat.ble (off + m) l.length with | true => K (s.put d (.agg ((l.drop off).take m))) | false => false)
    | _ => false)
  | .ext x i => (match s.ev x with
    | .tup l => (match lget l i with | some v => K (s.put d v) | none => false)
    | _ => false)
  | .len true x => (match s.ev x with
    | .dv (.str b) => frcN b.size fun n => K (s.put d (.dv (.int .i64 (Int.ofNat n))))
    | _ => false)
  | .len false x => (match s.ev x with
    | .dv .nils => K (s.put d (.dv (.int .i64 0)))
    | .dv .emp => K (s.put d (.dv (.int .i64 0)))
    | .dv (.seq n _ _) => frcN n fun n => K (s.put d (.dv (.int .i64 (Int.ofNat n))))
    | .vec h => (match lget s.mem h with | some (.vec n _ _) => frcN n fun n => K (s.put d (.dv (.int .i64 (Int.ofNat n)))) | _ => false)
    | .win _ _ n _ _ => frcN n fun n => K (s.put d (.dv (.int .i64 (Int.ofNat n))))
    | _ => false)
  | .app sz b x y => (match s.ev x, appSrc s sz (s.ev y) with
    | .dv .nils, some (m, bt) => (match roomB m b with | true => K ((s.madd (.vec m sz bt)).put d (.vec s.mem.length)) | false => false)
    | .dv .emp, some (m, bt) => (match roomB m b with | true => K ((s.madd (.vec m sz bt)).put d (.vec s.mem.length)) | false => false)
    | .vec h, some (m, bt) => (match lget s.mem h with
      | some (.vec n sz' at_) => (match Nat.beq sz' sz && roomB (n + m) b with
        | true => frcN (n + m) fun nm => K (((s.mset h .gone).madd (.vec nm sz (appAt std n at_ bt))).put d (.vec s.mem.length))
        | false => false)
      | _ => false)
    | .win h lo n none sz'', some (m, bt) => (match lget s.mem h with
      | some (.vec N sz' at_) => Nat.beq sz' sz && (Nat.beq sz'' sz && (Nat.ble (lo + n + m) N && frcN (n + m) fun nm =>
          K ((s.mset h (.vec N sz (cpyAt (lo + n) m at_ bt))).put d (.win h lo nm none sz))))
      | _ => false)
    | .win h lo n (some k) sz'', some (m, bt) => (match lget s.mem h with
      | some (.vec N sz' at_) => Nat.beq sz' sz && (Nat.beq sz'' sz && (Nat.ble (lo + n) N && (Nat.blt k (n + m) && (roomB (n + m) b && frcN (n + m) fun nm =>
          K ((s.madd (.vec nm sz (appAt std n (shiftAt std lo at_) bt))).put d (.vec s.mem.length))))))
      | _ => false)
    | x', none => (match winOf s sz (s.ev y), x' with
      | some (_, lo2, n2, N2, bt), .dv .nils => Nat.ble (lo2 + n2) N2 && (roomB n2 b && K ((s.madd (.vec n2 sz (shiftAt std lo2 bt))).put d (.vec s.mem.length)))
      | some (_, lo2, n2, N2, bt), .dv .emp => Nat.ble (lo2 + n2) N2 && (roomB n2 b && K ((s.madd (.vec n2 sz (shiftAt std lo2 bt))).put d (.vec s.mem.length)))
      | some (_, lo2, n2, N2, bt), .win h lo n none sz'' => (match lget s.mem h with
        | some (.vec N sz' at_) => Nat.beq sz' sz && (Nat.beq sz'' sz && (Nat.ble (lo2 + n2) N2 && (Nat.ble (lo + n + n2) N && frcN (n + n2) fun nm =>
            K ((s.mset h (.vec N sz (cpyAt (lo + n) n2 at_ (shiftAt std lo2 bt)))).put d (.win h lo nm none sz)))))
        | _ => false)
      | _, _ => false)
    | _, _ => false)
  | .nchk x => (match s.ev x with
    | .ptr h o => K (s.put d (.ptr h o))
    | .pat h o i n sz f => K (s.put d (.pat h o i n sz f))
    | .pseq n sz at_ i f => K (s.put d (.pseq n sz at_ i f))
    | .fn f l => K (s.put d (.fn f l))
    | .bfn f l => K (s.put d (.bfn f l))
    | .mfn m (.ifc t v) => (match T.me t m with | some _ => K (s.put d (.mfn m (.ifc t v))) | none => false)
    | .ifc t v => K (s.put d (.ifc t v))
    | _ => false)
  | .mki t x => K (s.put d (.ifc t (s.ev x)))
  | .mkf f l => K (s.put d (.fn f (l.map s.ev)))
  | .mkb f l => K (s.put d (.bfn f (l.map s.ev)))
  | .mkm m x => K (s.put d (.mfn m (s.ev x)))
  | .idxV n x i => (match s.ev x, s.ev i with
    | .agg l, .dv (.int _ i) => (match intsOf l with
      | some (k, ns) => Nat.beq ns.length n && (inbB i n && frcN i.toNat fun j => frcI (ns.getD j 0) fun v => K (s.put d (.dv (.int k v))))
      | none => false)
    | _, _ => false)
  | .call f l => call f (l.map s.ev) s.mem fun r m => K (St.put ⟨s.env, m⟩ d r)
  | .callv x l => (match s.ev x with
    | .fn f c => call f ((l ++ c.map X.c).map s.ev) s.mem fun r m => K (St.put ⟨s.env, m⟩ d r)
    | .bfn f c => call f ((c.map X.c ++ l).map s.ev) s.mem fun r m => K (St.put ⟨s.env, m⟩ d r)
    | _ => false)
  | .inv r m l => (match s.ev r with
    | .ifc t v => (match T.me t m with
      | some f => call f ((X.c v :: l).map s.ev) s.mem fun r m => K (St.put ⟨s.env, m⟩ d r)
      | none => false)
    | _ => false)
  | .slc sz x lo hi mx => (match s.ev x, evO s mx with
    | .dv (.seq n sz' at_), none => (match bnd 0 (evO s lo), bnd (std.ofN n) (evO s hi) with
      | some l, some h => Nat.beq sz' sz && (slbB l h (Int.ofNat n) (Int.ofNat n) && frcN (h.toNat - l.toNat) fun k => frcN l.toNat fun l' => K (s.put d (.dv (.seq k sz fun i f => at_ (l' + i) f))))
      | _, _ => false)
    | .dv (.seq _ _ _), some (.dv (.int _ 0)) => (match evO s lo, evO s hi with
      | none, some (.dv (.int _ 0)) => K (s.put d (.dv .emp))
      | some (.dv (.int _ 0)), some (.dv (.int _ 0)) => K (s.put d (.dv .emp))
      | _, _ => false)
    | .vec h, none => (match lget s.mem h with
      | some (.vec n sz' _) => (match bnd 0 (evO s lo), bnd (std.ofN n) (evO s hi) with
        | some l, some u => Nat.beq sz' sz && (slbB l u (Int.ofNat n) (Int.ofNat n) && frcN l.toNat fun l' => frcN (u.toNat - l.toNat) fun k => K (s.put d (.win h l' k none sz)))
        | _, _ => false)
      | _ => false)
    | .vec h, some m => (match lget s.mem h with
      | some (.vec n sz' _) => (match bnd 0 (evO s lo), evO s hi, m with
        | some 0, some (.dv (.int _ 0)), .dv (.int _ 0) => K (s.put d (.dv .emp))
        | some l, some (.dv (.int _ u)), .dv (.int _ m) => Nat.beq sz' sz && (slbB l u m (Int.ofNat n) && frcN l.toNat fun l' => frcN (u.toNat - l.toNat) fun k => frcN (m.toNat - l.toNat) fun c => K (s.put d (.win h l' k (some c) sz)))
        | _, _, _ => false)
      | _ => false)
    | .win h lo' n c sz', none => (match lget s.mem h, c with
      | some (.vec N _ _), none => (match bnd 0 (evO s lo), bnd (std.ofN n) (evO s hi) with
        | some l, some u => Nat.beq sz' sz && (slbB l u (Int.ofNat (N - lo')) (Int.ofNat (N - lo')) && frcN (lo' + l.toNat) fun l' => frcN (u.toNat - l.toNat) fun k => K (s.put d (.win h l' k none sz)))
        | _, _ => false)
      | some (.vec _ _ _), some c => (match bnd 0 (evO s lo), bnd (std.ofN n) (evO s hi) with
        | some l, some u => Nat.beq sz' sz && (slbB l u (Int.ofNat n) (Int.ofNat n) && frcN (lo' + l.toNat) fun l' => frcN (u.toNat - l.toNat) fun k => frcN (c - l.toNat) fun c => K (s.put d (.win h l' k (some c) sz)))
        | _, _ => false)
      | _, _ => false)
    | .win h lo' n _ sz', some m => (match lget s.mem h with
      | some (.vec _ _ _) => (match bnd 0 (evO s lo), evO s hi, m with
        | some l, some (.dv (.int _ u)), .dv (.int _ m) => Nat.beq sz' sz && (slbB l u m (Int.ofNat n) && frcN (lo' + l.toNat) fun l' => frcN (u.toNat - l.toNat) fun k => frcN (m.toNat - l.toNat) fun c => K (s.put d (.win h l' k (some c) sz)))
        | _, _, _ => false)
      | _ => false)
    | _, _ => false)
  | .ssl x lo hi => (match s.ev x with
    | .dv (.str b) => (match bnd 0 (evO s lo), bnd (std.ofN (std.slen b)) (evO s hi) with
      | some l, some h => slbB l h (Int.ofNat b.size) (Int.ofNat b.size) && K (s.put d (.dv (.str (b.extract l.toNat h.toNat))))
      | _, _ => false)
    | _ => false)
  | .mkM n => K ((s.madd (.mset n fun _ => false)).put d (.mp s.mem.length))
  | .mlk t n x k => (match s.ev x, s.ev k with
    | .mp h, .agg l => (match lget s.mem h, keyInts l with
      | some (.mset n' has), some ks => (match Nat.beq n' n && (Nat.beq ks.length n && T.sk t n ks) with
        | true => frcB (has ks) fun v => K (s.put d (.tup [.agg [], .dv (.bool v)]))
        | false => false)
      | _, _ => false)
    | _, _ => false)
  | .mup t n m k v => (match s.ev m, s.ev k, s.ev v with
    | .mp h, .agg l, .agg [] => (match lget s.mem h, keyInts l with
      | some (.mset n' has), some ks => (match Nat.beq n' n && (Nat.beq ks.length n && T.sk t n ks) with
        | true => K ((s.mset h (.mset n (addKey has ks))).put d .junk)
        | false => false)
      | _, _ => false)
    | _, _, _ => false)
  | .pu p xs => (match pdata (xs.map s.ev) with
    | some ds => (match puT p ds with
      | some .b => puCB p ds && frcB (puB p ds) fun v => K (s.put d (.dv (.bool v)))
      | some (.i k) => puCB p ds && frcI (puI p ds) fun v => K (s.put d (.dv (.int k v)))
      | some (.f k) => puCB p ds && frcN (puF p ds) fun v => K (s.put d (.dv (.flt k v)))
      | some .s => puCB p ds && K (s.put d (.dv (.str (puS p ds))))
      | none => false)
    | none => false)
  | .cpl x y => (match s.ev x, s.ev y with
    | .dv (.flt k a), .dv (.flt k' b) => (match fkEq k k' with | true => K (s.put d (.dv (.cpx k a b))) | false => false)
    | _, _ => false)
  | .cpart im x => (match s.ev x with
    | .dv (.cpx k a b) => (match im with | true => K (s.put d (.dv (.flt k b))) | false => K (s.put d (.dv (.flt k a))))
    | _ => false)
  | .mks sz b z n c => (match s.ev n, s.ev c with
    | .dv (.int _ n), .dv (.int _ c) => mkB n c b && frcN n.toNat fun n' => K ((s.madd (.vec n' sz fun _ f => zget z f)).put d (.vec s.mem.length))
    | _, _ => false)
  | .cpy sz x y => (match winOf s sz (s.ev x), appSrc s sz (s.ev y) with
    | some (h, lo, n, N, at_), some (m, bt) => Nat.ble (lo + n) N && frcN (Nat.min m n) fun k => K ((s.mset h (.vec N sz (cpyAt lo k at_ bt))).put d (.dv (.int .i64 (Int.ofNat k))))
    | some (h, lo, n, N, at_), none => (match winOf s sz (s.ev y) with
      | some (_, lo2, n2, N2, bt) => Nat.ble (lo + n) N && (Nat.ble (lo2 + n2) N2 && frcN (Nat.min n2 n) fun k => K ((s.mset h (.vec N sz (cpyAt lo k at_ (shiftAt std lo2 bt)))).put d (.dv (.int .i64 (Int.ofNat k)))))
      | none => false)
    | none, _ => false)
  | .clr sz z x => (match winOf s sz (s.ev x) with
    | some (h, lo, n, N, at_) => Nat.ble (lo + n) N && K ((s.mset h (.vec N sz (cpyAt lo n at_ fun _ f => zget z f))).put d (.tup []))
    | none => (match s.ev x with
      | .dv .nils => K (s.put d (.tup []))
      | .dv .emp => K (s.put d (.tup []))
      | _ => false))
  | .eqa t n neg x y => (match s.ev x, s.ev y with
    | .agg l, .agg r => dvSames l r && (Nat.beq l.length n && (T.ea t n && frcB (vnot std neg (dvEqs l r)) fun v => K (s.put d (.dv (.bool v)))))
    | _, _ => false)
  | .tas t z ok x => (match s.ev x, ok with
    | .ifc t' v, true => (match Nat.beq t' t with | true => K (s.put d (.tup [v, .dv (.bool true)])) | false => K (s.put d (.tup [.dv z, .dv (.bool false)])))
    | .dv .nili, true => K (s.put d (.tup [.dv z, .dv (.bool false)]))
    | .ifc t' v, false => (match Nat.beq t' t with | true => K (s.put d v) | false => false)
    | _, _ => false)
  | .other => false

def gE (g : Option (Option Nat × Bool)) (s : St O) (run skip : St O → Bool) : Bool :=
  match g with
  | none => run s
  | some (some d, b) => (match lget s.env d with
    | some (.dv (.bool true)) => (match b with | true => run (s.put (some d) (.dv (.bool true))) | false => skip (s.put (some d) (.dv (.bool true))))
    | some (.dv (.bool false)) => (match b with | true => skip (s.put (some d) (.dv (.bool false))) | false => run (s.put (some d) (.dv (.bool false))))
    | some (.tup _) => skip s
    | _ => false)
  | some (none, _) => false

noncomputable def lE (T : Tb O) (call : CallT O) : List Op1 → St O → Kt O → Bool
  | [], s, K => K s
  | o :: r, s, K => gE o.g s (fun s => opE T call o.d o.i s fun s' => lE T call r s' K) (fun s => lE T call r (s.put o.d (.tup [])) K)

def andE : DT → Bool → Bool → Bool
  | .none, p, _ => p
  | _, p, q => p && q

def dvB : DV → DV → Bool
  | .int k a, .int k' b => ikEq k k' && decide (a = b)
  | .bool true, .bool true => true
  | .bool false, .bool false => true
  | .nilp, .nilp => true
  | .nils, .nils => true
  | .nili, .nili => true
  | .nilf, .nilf => true
  | .nilm, .nilm => true
  | _, _ => false

/-- Are two values surely the same? -/
def svB : Nat → SV → SV → Bool
  | 0, _, _ => false
  | n + 1, a, b => (match a, b with
    | .dv a, .dv b => dvB a b
    | .ptr h o, .ptr h' o' => Nat.beq h h' && Nat.beq o o'
    | .pat h o i m sz f, .pat h' o' i' m' sz' f' => Nat.beq h h' && (Nat.beq o o' && (Nat.beq i i' && (Nat.beq m m' && (Nat.beq sz sz' && Nat.beq f f'))))
    | .vec h, .vec h' => Nat.beq h h'
    | .mp h, .mp h' => Nat.beq h h'
    | .gp h, .gp h' => Nat.beq h h'
    | .agg l, .agg r => all2 (svB n) l r
    | .tup l, .tup r => all2 (svB n) l r
    | .fn f l, .fn g r => Nat.beq f g && all2 (svB n) l r
    | .ifc t x, .ifc u y => Nat.beq t u && svB n x y
    | _, _ => false)

def chkE (aft : List Nat) (mem : List (Chunk O)) : List (Nat × Rd) → Bool
  | [] => true
  | (k, r) :: R => (match memN k aft || !r.open with
    | true => chkE aft mem R
    | false => (match lget mem r.h with
      | some c => (match ldC c r.p r.n with | some v => svB 9 v r.sv && chkE aft mem R | none => false)
      | none => false))

noncomputable def tE (T : Tb O) (call : CallT O) : DT → List (Nat × Rd) → St O → Kt O → Bool
  | .done, _, s, K => K s
  | .take i o rest, R, s, K => gE o.g s (fun s => opE T call o.d o.i s fun s' => tE T call rest (addR i (rdOf s o.i) R) s' K) (fun s => tE T call rest R (s.put o.d (.tup [])) K)
  | .alt _ aft o rest more, R, s, K =>
    andE more (gE o.g s (fun s => opE T call o.d o.i ⟨s.env, maskM (heldOf aft R) s.mem⟩ fun s' => (match unmaskM s.mem (heldOf aft R) s'.mem with
      | some m => chkE aft m R && tE T call rest (keepR aft R) ⟨s'.env, m⟩ K
      | none => false)) (fun s => tE T call rest (keepR aft R) (s.put o.d (.tup [])) K))
    (tE T call more R s K)
  | .none, _, _, _ => true
  | .bad, _, _, _ => false

abbrev Kx (O : Type) := Ex → St O → Bool

/-- What a deeper level does: calls; going on at a label of a scope. -/
structure Ev (O : Type) where
  call : CallT O
  res : IC → Nat → St O → Kx O → Bool

def scopeK (res : IC → Nat → St O → Kx O → Bool) (b : IC) (K : Kx O) : Kx O := fun e s => match e with
  | .goto l => res b l s K
  | .normal => K .normal s
  | .exit i => K (.exit i) s
  | .ret => K .ret s

def loopE (body : St O → Kx O → Bool) : Nat → St O → Kx O → Bool
  | 0, _, _ => false
  | n + 1, s, K => body s fun e s' => (match e with
    | .normal => loopE body n s' K
    | .exit i => K (.exit i) s'
    | .goto l => K (.goto l) s'
    | .ret => K .ret s')

noncomputable def cE (T : Tb O) (R : Nat) (ev : Ev O) : IC → St O → Kx O → Bool
  | .skip, s, K => K .normal s
  | .reg l, s, K => lE T ev.call l s (K .normal)
  | .drw t, s, K => tE T ev.call t [] s (K .normal)
  | .seq a b, s, K => cE T R ev a s fun e s' => (match e with
    | .normal => cE T R ev b s' K
    | .exit i => K (.exit i) s'
    | .goto l => K (.goto l) s'
    | .ret => K .ret s')
  | .cond c a b, s, K => (match s.ev c with
    | .dv (.bool true) => cE T R ev a s K
    | .dv (.bool false) => cE T R ev b s K
    | _ => false)
  | .block id c, s, K => cE T R ev c s fun e s' => (match e with
    | .normal => K .normal s'
    | .exit i => (match Nat.beq i id with | true => K .normal s' | false => K (.exit i) s')
    | .goto l => K (.goto l) s'
    | .ret => K .ret s')
  | .loop c, s, K => loopE (fun s K => cE T R ev c s K) R s K
  | .exit id, s, K => K (.exit id) s
  | .ret, s, K => K .ret s
  | .label _, s, K => K .normal s
  | .goto l, s, K => K (.goto l) s
  | .scope c, s, K => cE T R ev c s (scopeK ev.res c K)
  | .cut _, _, _ => false
  | .bad, _, _ => false

def bodyE (rs : List RV) (K : SV → List (Chunk O) → Bool) : Kx O := fun e s => match e with
  | .normal => (match resL s rs with | some l => K (ret1 l) s.mem | none => false)
  | .ret => (match resL s rs with | some l => K (ret1 l) s.mem | none => false)
  | _ => false

/-- Calls and jumps, so many levels deep. -/
noncomputable def evE (T : Tb O) (R : Nat) : Nat → Ev O
  | 0 => ⟨fun _ _ _ _ => false, fun _ _ _ _ => false⟩
  | n + 1 => ⟨fun f args m K => (match T.fn f with
      | some e => cE T R (evE T R n) e.ic ⟨args ++ junks (e.nt - args.length), m⟩ (bodyE e.rs K)
      | none => (match T.pm f with
        | some g => (match g args m with | some (r, m') => K r m' | none => false)
        | none => false)),
    fun b l s K => (match findI b l with
      | some rest => cE T R (evE T R n) rest s (scopeK (evE T R n).res b K)
      | none => K (.goto l) s)⟩

end Go.V
