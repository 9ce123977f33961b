/-
  The model's operations in short form; what is to be shown of each; lemmas on relations.
-/
import Derived.Test.YtiaceoomiflgcaaVcgB
namespace Go.V

/-! ### Constants and operands -/
def cV1 : Value → SV
  | .bool b => .dv (.bool b)
  | .int k n => .dv (.int k n)
  | .float k b => .dv (.flt k b)
  | .complex k a b => .dv (.cpx k a b)
  | .string s => .dv (.str s)
  | .pointer none => .dv .nilp
  | .slice none 0 0 => .dv .nils
  | .map none => .dv .nilm
  | .nilFunc => .dv .nilf
  | .nilIface => .dv .nili
  | _ => .junk

def cVs : List Value → List SV
  | [] => []
  | v :: r => cV1 v :: cVs r

def cV : Value → SV
  | .agg cs => .agg (cVs cs.toList)
  | v => cV1 v

def cX : Operand → X
  | .tmp t => .t t
  | .const v => .c (cV v)
  | .global g => .c (.gp g)
  | .func f => .c (.fn f [])

/-- The data of a zero value's cells; none: not all are data. -/
def zDV : List Value → Option (List DV)
  | [] => some []
  | v :: r => (match cV1 v with
    | .dv d => (match zDV r with | some l => some (d :: l) | none => none)
    | _ => none)

/-- The shape of a type's cells (an array among a struct's fields, or by itself, is a row). -/
def shapeT (P : Program) : Nat → TypeId → Option (List (Option (Nat × Nat)))
  | 0, _ => none
  | d + 1, t => (match P.underlying t with
    | some (.struct fs) => fs.toList.foldr (fun f r => (match shapeT P d f.type, r with | some l, some r => some (l ++ r) | _, _ => none)) (some [])
    | some (.array n e) => some [some (n, P.cellsOf e)]
    | some _ => some [none]
    | none => none)

def shape0 (P : Program) (t : TypeId) : List (Option (Nat × Nat)) := (shapeT P 8 t).getD []

def aggT (P : Program) (t : TypeId) : Option Bool :=
  match P.underlying t with
  | some (.struct _) => some true
  | some (.array _ _) => some true
  | some _ => some false
  | none => none

/-- Of a type: how many cells it is loaded as: some none: one cell as it is. -/
def ldT (P : Program) (t : TypeId) : Option (Option Nat) :=
  match aggT P t, P.info? t with
  | some true, some i => some (some i.size)
  | some false, some _ => some none
  | _, _ => none

def fieldT (P : Program) (s : TypeId) (f : Nat) : Option (Nat × TypeId) :=
  match P.underlying s with
  | some (.struct fs) => (match fs[f]? with | some x => some (x.offset, x.type) | none => none)
  | _ => none

def sizeT (P : Program) (t : TypeId) : Option Nat := (P.info? t).map (·.size)
def bytesT (P : Program) (t : TypeId) : Option Nat := (P.info? t).map (·.bytes)
def zeroT (P : Program) (t : TypeId) : Option (List DV) := ((P.info? t).bind (·.zero)).bind fun v => zDV v.cells.toList

/-- Of a set of keys: how many cells a key takes. -/
def setT (P : Program) (t : TypeId) : Option Nat :=
  match P.underlying t with
  | some (.map k e) => (match sizeT P k, sizeT P e with | some n, some 0 => some n | _, _ => none)
  | _ => none

def partsX (l : List (Nat × Operand)) (place : Nat → Option (Nat × Nat)) : Option (List (Nat × Nat × X)) :=
  match l with
  | [] => some []
  | (i, x) :: r => (match place i, partsX r place with | some (o, n), some l => some ((o, n, cX x) :: l) | _, _ => none)

/-- Where a struct's fields lie, and how many cells each takes. -/
def placesT (P : Program) : List Field → Option (List (Nat × Nat))
  | [] => some []
  | f :: r => (match sizeT P f.type, placesT P r with | some n, some l => some ((f.offset, n) :: l) | _, _ => none)

/-- Of what kind '==' is at a type. -/
def ekT (P : Program) (t : TypeId) : Option EK :=
  match P.underlying t with
  | some .bool => some .bool
  | some (.pointer _) => some .ptr
  | some (.slice _) => some .slc
  | some (.func ..) => some .fn
  | some (.interface _) => some .ifc
  | _ => none

/-- How many cells a shape takes. -/
def shapeN : List (Option (Nat × Nat)) → Nat
  | [] => 0
  | none :: r => shapeN r + 1
  | some (n, sz) :: r => n * sz + shapeN r

/-- A zero value that is one datum. -/
def zero1T (P : Program) (t : TypeId) : Option DV :=
  match (P.info? t).bind (·.zero) with
  | some v => (match cV v with | .dv d => some d | _ => none)
  | none => none

/-- An operation on two data of a kind that is no whole number's. -/
def puOf (P : Program) (op : BinOp) (t : TypeId) : Option Pu :=
  match P.underlying t with
  | some (.float _) => (match isCmp op with | true => some (.fcmp op) | false => none)
  | some (.complex _) => (match op with | .eql => some (.ceq false) | .neq => some (.ceq true) | _ => none)
  | some .string => (match op with | .add => some .scat | op => (match isCmp op with | true => some (.scmp op) | false => none))
  | _ => none

/-- '==' on structs and arrays. -/
def eqaOf (P : Program) (op : BinOp) (t : TypeId) : Option (Nat × Bool) :=
  match op, aggT P t, sizeT P t with
  | .eql, some true, some n => some (n, false)
  | .neq, some true, some n => some (n, true)
  | _, _, _ => none

/-- Of a conversion that is none of whole numbers. -/
def cvOf (P : Program) (t0 t : TypeId) : Option Pu :=
  match P.underlying t0, P.underlying t with
  | some (.float _), some (.int k) => some (.f2i k)
  | some (.int _), some (.float k) => some (.i2f k)
  | _, _ => none

def compOp (P : Program) : Op → Ins
  | .move x | .assign x => .mov (cX x)
  | .pick c a b => .pick (cX c) (cX a) (cX b)
  | .binOp op t x y _ => (match puOf P op t, eqaOf P op t with
    | some p, _ => .pu p [cX x, cX y]
    | none, some (n, neg) => .eqa t n neg (cX x) (cX y)
    | none, none => (match op, ekT P t with
      | .eql, some k => .eqn k false (cX x) (cX y)
      | .neq, some k => .eqn k true (cX x) (cX y)
      | op, _ => .bin op (cX x) (cX y)))
  | .unOp op _ x => .un op (cX x)
  | .convert t0 t x => (match cvOf P t0 t with
    | some p => .pu p [cX x]
    | none => (match P.underlying t, P.underlying t0 with | some (.int k), some _ => .conv k (cX x) | _, _ => .other))
  | .index t x i => (match P.underlying t with
    | some .string => .pu .sidx [cX x, cX i]
    | some (.array n e) => (match P.underlying e with | some (.int _) => (match ldT P e, sizeT P e with | some none, some 1 => .idxV n (cX x) (cX i) | _, _ => .other) | _ => .other)
    | _ => .other)
  | .makeSlice t n c => (match P.underlying t with
    | some (.slice e) => (match sizeT P e, bytesT P e, zeroT P e with
      | some sz, some b, some z => if z.length = sz ∧ 0 < sz ∧ 0 < b then .mks sz b z (cX n) (cX c) else .other
      | _, _, _ => .other)
    | _ => .other)
  | .typeAssert x _ t ok => (match P.underlying t, zero1T P t with
    | some (.interface _), _ => .other
    | some _, some z => .tas t z ok (cX x)
    | _, _ => .other)
  | .fieldAddr s x f => (match fieldT P s f with
    | some (off, t) => if sizeT P t = some 0 || sizeT P t = none then .other else .fldA off (cX x)
    | none => .other)
  | .indexAddr t x i => (match P.underlying t with
    | some (.array n e) => (match sizeT P e with | some sz => .idxA n sz (cX x) (cX i) | none => .other)
    | some (.slice e) => (match sizeT P e with | some sz => .idxS sz (cX x) (cX i) | none => .other)
    | _ => .other)
  | .load t x => (match ldT P t with | some n => .ld n (cX x) | none => .other)
  | .store t x v => (match sizeT P t with | some n => .st n (cX x) (cX v) | none => .other)
  | .alloc t => (match zeroT P t with | some z => if shapeN (shape0 P t) = z.length then .new (shape0 P t) z else .other | none => .other)
  | .box t x => .box (shapeN (shape0 P t)) (shape0 P t) (cX x)
  | .build t ps => (match P.underlying t, zeroT P t with
    | some (.struct fs), some z => (match placesT P fs.toList with
      | some pl => (match partsX ps.toList (fun i => pl[i]?) with | some l => .build z l | none => .other)
      | none => .other)
    | some (.array _ e), some z => (match sizeT P e with
      | some sz => (match partsX ps.toList (fun i => some (i * sz, sz)) with | some l => .build z l | none => .other)
      | none => .other)
    | _, _ => .other)
  | .buildSlice t n ps => (match P.underlying t with
    | some (.slice e) => (match sizeT P e, zeroT P e with
      | some sz, some z => (match partsX ps.toList (fun i => some (i * sz, sz)) with
        | some l => if z.length = sz ∧ n * sz ≤ 16777216 ∧ n ≤ 16777216 then .mkS sz n z l else .other
        | none => .other)
      | _, _ => .other)
    | _ => .other)
  | .field t x f => (match fieldT P t f with
    | some (off, u) => (match ldT P u with | some n => .fld off n (cX x) | none => .other)
    | none => .other)
  | .extract t i => .ext (cX t) i
  | .nilCheck x => .nchk (cX x)
  | .makeInterface t x => (match P.underlying t with | some (.interface _) => .other | some _ => .mki t (cX x) | none => .other)
  | .makeFunc (.func f) first caps => if first.isEmpty then .mkf f (caps.toList.map cX) else if caps.isEmpty then .mkb f (first.toList.map cX) else .other
  | .makeFunc (.method m) first caps => (match first.toList, caps.isEmpty with | [x], true => .mkm m (cX x) | _, _ => .other)
  | .slice t x lo hi mx => (match P.underlying t with
    | some (.slice e) => (match sizeT P e with | some sz => .slc sz (cX x) (lo.map cX) (hi.map cX) (mx.map cX) | none => .other)
    | some .string => (match mx with | none => .ssl (cX x) (lo.map cX) (hi.map cX) | some _ => .other)
    | _ => .other)
  | .makeMap t none => (match setT P t with | some n => .mkM n | none => .other)
  | .lookup t x k true => (match setT P t with | some n => .mlk t n (cX x) (cX k) | none => .other)
  | .mapUpdate t m k x => (match setT P t with | some n => .mup t n (cX m) (cX k) (cX x) | none => .other)
  | .call c => (match c.callee with
    | .value (.func f) => .call f (c.args.toList.map cX)
    | .value x => .callv (cX x) (c.args.toList.map cX)
    | .invoke r m => .inv (cX r) m (c.args.toList.map cX)
    | .builtin .len => (match c.argTypes.toList, c.args.toList with
      | [t], [x] => (match P.underlying t with | some .string => .len true (cX x) | some (.slice _) => .len false (cX x) | _ => .other)
      | _, _ => .other)
    | .builtin .complex => (match c.args.toList with | [x, y] => .cpl (cX x) (cX y) | _ => .other)
    | .builtin .real => (match c.args.toList with | [x] => .cpart false (cX x) | _ => .other)
    | .builtin .imag => (match c.args.toList with | [x] => .cpart true (cX x) | _ => .other)
    | .builtin .min => (match c.args.toList with | [x, y] => .pu .mn [cX x, cX y] | _ => .other)
    | .builtin .max => (match c.args.toList with | [x, y] => .pu .mx [cX x, cX y] | _ => .other)
    | .builtin .copy => (match c.argTypes.toList, c.args.toList with
      | [t, t'], [x, y] => (match P.underlying t, P.underlying t' with
        | some (.slice e), some (.slice _) => (match sizeT P e with | some sz => if 0 < sz then .cpy sz (cX x) (cX y) else .other | none => .other)
        | _, _ => .other)
      | _, _ => .other)
    | .builtin .clear => (match c.argTypes.toList, c.args.toList with
      | [t], [x] => (match P.underlying t with
        | some (.slice e) => (match sizeT P e, zeroT P e with | some sz, some z => if z.length = sz ∧ 0 < sz then .clr sz z (cX x) else .other | _, _ => .other)
        | _ => .other)
      | _, _ => .other)
    | .builtin .append => (match c.argTypes.toList, c.args.toList with
      | [t, t'], [x, y] => (match P.underlying t, P.underlying t' with
        | some (.slice e), some (.slice _) => (match sizeT P e, bytesT P e, zeroT P e with
          | some sz, some b, some z => if z.length = sz ∧ 0 < b ∧ b ≤ 65536 ∧ 0 < sz then .app sz b (cX x) (cX y) else .other
          | _, _, _ => .other)
        | _, _ => .other)
      | _, _ => .other)
    | _ => .other)
  | _ => .other

/-! ### Relations: taking a value out, laying one in -/
variable {O : Type}
section
variable {β : Nat → HI} {N : Nat} {I : Nat → Prop} {w : World}

theorem RelL.length : ∀ {s l}, RelL β N I w s l → l.length = s.length
  | [], _, h => by simp only [RelL] at h; simp [h]
  | _ :: _, _, h => by
    simp only [RelL] at h
    obtain ⟨_, _, rfl, _, h⟩ := h
    simp [RelL.length h]

theorem RelL.get : ∀ {s l} {i : Nat} {v}, RelL β N I w s l → lget s i = some v → ∃ x, l[i]? = some x ∧ Rel β N I w v x
  | [], _, _, _, _, hv => by simp [lget] at hv
  | _ :: _, _, 0, _, h, hv => by
    simp only [RelL] at h
    obtain ⟨y, ys, rfl, hx, _⟩ := h
    simp only [lget, Option.some.injEq] at hv
    exact ⟨y, rfl, hv ▸ hx⟩
  | _ :: _, _, i + 1, _, h, hv => by
    simp only [RelL] at h
    obtain ⟨y, ys, rfl, _, h⟩ := h
    simp only [lget] at hv
    obtain ⟨x, hx, hr⟩ := RelL.get h hv
    exact ⟨x, by simpa using hx, hr⟩

theorem RelL.set : ∀ {s l} {i : Nat} {v x}, RelL β N I w s l → Rel β N I w v x → RelL β N I w (lset s i v) (l.set i x)
  | [], _, _, _, _, h, _ => by simp only [RelL] at h; subst h; simp [lset, RelL]
  | _ :: _, _, 0, _, _, h, hv => by
    simp only [RelL] at h
    obtain ⟨y, ys, rfl, _, h⟩ := h
    exact ⟨_, _, rfl, hv, h⟩
  | _ :: _, _, i + 1, _, _, h, hv => by
    simp only [RelL] at h
    obtain ⟨y, ys, rfl, hx, h⟩ := h
    exact ⟨y, _, rfl, hx, RelL.set h hv⟩

theorem RelL.append : ∀ {s l s' l'}, RelL β N I w s l → RelL β N I w s' l' → RelL β N I w (s ++ s') (l ++ l')
  | [], _, _, _, h, h' => by simp only [RelL] at h; subst h; simpa using h'
  | _ :: _, _, _, _, h, h' => by
    simp only [RelL] at h
    obtain ⟨y, ys, rfl, hx, h⟩ := h
    exact ⟨y, _, rfl, hx, RelL.append h h'⟩

theorem RelL.map {α : Type} {f : α → SV} {g : α → Value} : ∀ {l : List α}, (∀ x ∈ l, Rel β N I w (f x) (g x)) → RelL β N I w (l.map f) (l.map g)
  | [], _ => rfl
  | x :: l, h => ⟨g x, l.map g, rfl, h x (by simp), RelL.map fun y hy => h y (by simp [hy])⟩

theorem cV1_rel : ∀ v, Rel β N I w (cV1 v) v := by
  intro v
  cases v with
  | pointer a => cases a <;> simp [cV1, Rel, DRel]
  | slice a n c =>
    cases a with
    | some a => simp [cV1, Rel]
    | none =>
      cases n with
      | succ n => simp [cV1, Rel]
      | zero => cases c <;> simp [cV1, Rel, DRel]
  | map r => cases r <;> simp [cV1, Rel, DRel]
  | _ => simp [cV1, Rel, DRel]

theorem cVs_rel : ∀ l, RelL β N I w (cVs l) l
  | [] => rfl
  | v :: r => ⟨v, r, rfl, cV1_rel v, cVs_rel r⟩

theorem cV_rel (v : Value) : Rel β N I w (cV v) v := by
  cases v with
  | agg cs => simp only [cV, Rel]; exact ⟨cs.toList, by simp, cVs_rel _⟩
  | _ => simp only [cV]; exact cV1_rel _

theorem ev_rel {s : St O} {a : Act} (h : RelL β N I w s.env a.tmps.toList) (x : Operand) : Rel β N I w (s.ev (cX x)) (a.eval x) := by
  cases x with
  | tmp t =>
    simp only [cX, St.ev, Act.eval]
    cases hg : lget s.env t with
    | none => simp [Rel]
    | some v =>
      obtain ⟨x, hx, hr⟩ := h.get hg
      have : a.tmps[t]? = some x := by simpa using hx
      simpa [Array.getD_eq_getD_getElem?, this] using hr
  | const v => exact cV_rel v
  | global g => simp [cX, St.ev, Rel, Act.eval]
  | func f => simp only [cX, St.ev, Act.eval, Rel]; exact ⟨[], rfl, rfl⟩

theorem evs_rel {s : St O} {a : Act} (h : RelL β N I w s.env a.tmps.toList) (xs : List Operand) : RelL β N I w ((xs.map cX).map s.ev) (xs.map a.eval) := by
  rw [List.map_map]
  exact RelL.map fun x _ => ev_rel h x

theorem put_rel {s : St O} {a : Act} {d : Option Nat} {sv : SV} {v : Value} (h : RelL β N I w s.env a.tmps.toList) (hv : Rel β N I w sv v) :
    RelL β N I w (s.put d sv).env (a.put d v).tmps.toList := by
  cases d with
  | none => exact h
  | some d =>
    simp only [St.put, Act.put]
    rw [show (a.tmps.setIfInBounds d v).toList = a.tmps.toList.set d v by simp]
    exact h.set hv

theorem put_mem {s : St O} {d : Option Nat} {sv : SV} : (s.put d sv).mem = s.mem := by cases d <;> rfl
theorem put_defers {a : Act} {d : Option Nat} {v : Value} : (a.put d v).defers = a.defers := by cases d <;> rfl
end

theorem lget_eq {α : Type} : ∀ (l : List α) (i : Nat), lget l i = l[i]?
  | [], _ => by simp [lget]
  | _ :: _, 0 => by simp [lget]
  | _ :: l, i + 1 => by simp [lget, lget_eq l i]

theorem lset_eq {α : Type} : ∀ (l : List α) (i : Nat) (v : α), lset l i v = l.set i v
  | [], _, _ => by simp [lset]
  | _ :: _, 0, _ => by simp [lset]
  | _ :: l, i + 1, v => by simp [lset, lset_eq l i v]

/-! ### What an operation must do -/
variable [Objs O]
/-- A world in which a state holds, and values beside the temporaries. -/
def SatX (fr : Fr) (s : St O) (a : Act) (w : World) (xs : List SV) (vs : List Value) : Prop :=
  a.defers = [] ∧ ∃ β I F, MSat β I w F s.mem ∧ RelL β s.mem.length I w s.env a.tmps.toList ∧ Went fr.w fr.F fr.I w (fun b => ∃ h, F h b) I ∧
    (∀ h, h < fr.n → β h = fr.β h) ∧ fr.n ≤ s.mem.length ∧ RelL β s.mem.length I w xs vs

def SemO (P : Program) (o : Oper) (s : St O) (K : St O → Prop) : Prop :=
  ∀ (fr : Fr) (a : Act) (w : World), Sat fr s a w → ∀ (next : Act → World → Prop) (Q : Exit → Act → World → Prop),
    (∀ s' a' w', K s' → Sat fr s' a' w' → next a' w') → o.wp P a w next Q

/-- Worlds that agree in what is whole, and in the blocks behind some handles. -/
def AgrL (L : List Nat) (I : Nat → Prop) (F : Nat → Nat → Prop) (w w' : World) : Prop := ∀ b, (I b ∨ ∃ h, h ∈ L ∧ F h b) → w'.heap[b]? = w.heap[b]?

theorem AgrL.refl (L : List Nat) (I : Nat → Prop) (F : Nat → Nat → Prop) (w : World) : AgrL L I F w w := fun _ _ => rfl

/-- An operation that leaves the world as it is, and tells the same value in all worlds that agree in what it reads. -/
def SemY (P : Program) (o : Oper) (s : St O) (K : St O → Prop) (L : List Nat) : Prop :=
  ∀ (a : Act) (w : World) (β : Nat → HI) (I : Nat → Prop) (F : Nat → Nat → Prop), MSat β I w F s.mem → RelL β s.mem.length I w s.env a.tmps.toList →
    ∃ v sv, (∀ w', AgrL L I F w w' → (execOp a.eval o).run P w' = .ok (.value v) w') ∧ Rel β s.mem.length I w sv v ∧ K (s.put o.dst sv)

def early : Ins → Bool
  | .mov _ | .pick _ _ _ | .bin _ _ _ | .eqn _ _ _ _ | .un _ _ | .conv _ _ | .fldA _ _ | .idxA _ _ _ _ | .idxS _ _ _ | .ld _ _ | .build _ _ | .fld _ _ _ | .ext _ _
  | .len _ _ | .nchk _ | .mki _ _ | .mkf _ _ | .mkb _ _ | .mkm _ _ | .idxV _ _ _ | .slc _ _ _ _ _ | .ssl _ _ _ | .pu _ _ | .cpl _ _ | .cpart _ _ | .eqa _ _ _ _ _ | .tas _ _ _ _ => true
  | _ => false

/-- The handles that are read. -/
def ldH (s : St O) : Ins → List Nat
  | .ld _ x => (match s.ev x with
    | .ptr h _ => [h]
    | .pat h _ _ _ _ _ => [h]
    | _ => [])
  | _ => []

def SemZ (P : Program) (i : Ins) (o : Oper) (s : St O) (K : St O → Prop) : Prop :=
  match early i with
  | true => SemY P o s K (ldH s i)
  | false => SemO P o s K

def SemI (P : Program) (d : Option Nat) (i : Ins) (s : St O) (K : St O → Prop) : Prop :=
  ∀ o : Oper, o.dst = d → compOp P o.op = i → SemZ P i o s K

/-- Where the executor stands still: what the operation must do, as it is. -/
structure Stuck (P : Program) (d : Option Nat) (i : Ins) (s : St O) (K : St O → Prop) : Prop where
  h : SemI P d i s K

structure Chk (p : Prop) (q : Unit → Prop) : Prop where
  h : p
  k : q ()

/-- An index: within the row; the number is named. -/
structure IdxVC (p : Prop) (n k0 : Nat) (K : Nat → Prop) : Prop where
  h : p
  k : ∀ k, k = k0 → k < n → K k

def bc : Bool → (Unit → Prop) → (Unit → Prop) → Prop
  | true, p, _ => p ()
  | false, _, q => q ()

theorem bc_split {b : Bool} {p q : Unit → Prop} (h : b = true → p ()) (k : b = false → q ()) : bc b p q := by
  cases b
  · exact k rfl
  · exact h rfl

/-- Functions that are called as code: with a body, and of no name that the model stands in for. -/
def codeFn (P : Program) (f : FuncId) : Bool :=
  match P.funcs[f]? with
  | some fn => fn.body.isSome && !(fn.name == "runtime.NumGoroutine")
  | none => false

/-- A call of a named function, with its operands. -/
structure CallVC (P : Program) (f : FuncId) (d : Option Nat) (xs : List X) (s : St O) (K : St O → Prop) : Prop where
  c : codeFn P f = true
  h : ∀ (fr : Fr) (a : Act) (w : World) (vs : List Value), SatX fr s a w (xs.map s.ev) vs → ∀ next : Act → World → Prop,
    (∀ s' a' w', K s' → Sat fr s' a' w' → next a' w') → Calls P f vs.toArray w fun e w' => ∃ v, e = .returned v ∧ next (a.put d v) w'

/-- The function behind a method of a dynamic type that is a pointer's, declared for that pointer. -/
def methOf (P : Program) (t : TypeId) (m : String) : Option FuncId :=
  match P.underlying t, P.info? t with
  | some (.pointer _), some i => (match i.methods.find? (·.name == m) with
    | some x => (match x.func, x.path.isEmpty with
      | some (f, true), true => some f
      | _, _ => none)
    | none => none)
  | _, _ => none

structure InvVC (P : Program) (t : TypeId) (m : String) (d : Option Nat) (xs : List X) (s : St O) (K : St O → Prop) : Prop where
  ex : ∃ f, methOf P t m = some f ∧ CallVC P f d xs s K

end Go.V
