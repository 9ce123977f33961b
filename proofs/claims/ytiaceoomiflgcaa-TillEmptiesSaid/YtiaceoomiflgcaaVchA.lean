/-
  The conditions suffice: operations on other data than whole numbers; type assertions; '==' on structs and arrays.
-/
import Derived.Test.YtiaceoomiflgcaaVcgZ
namespace Go.V

theorem fkEq_eq {a b : FloatKind} (h : fkEq a b = true) : a = b := by cases a <;> cases b <;> simp_all [fkEq]

theorem pdata_eq : ∀ {l : List SV} {ds : List DV}, pdata l = some ds → l = ds.map SV.dv
  | [], ds, h => by simp only [pdata, Option.some.injEq] at h; subst h; rfl
  | v :: r, ds, h => by
    unfold pdata at h
    split at h
    · rename_i e; cases e
    · rename_i d r' e
      cases e
      split at h
      · rename_i l' hl
        simp only [Option.some.injEq] at h
        subst h
        rw [pdata_eq hl]
        rfl
      · cases h
    · cases h

theorem puT_fcmp {op : BinOp} {ds : List DV} {pk : PK} (h : puT (.fcmp op) ds = some pk) : ∃ k a b, ds = [.flt k a, .flt k b] ∧ pk = .b ∧ isCmp op = true := by
  simp only [puT] at h
  split at h
  · rename_i k a k' b
    split at h
    · rename_i hh
      simp only [Bool.and_eq_true] at hh
      obtain rfl := fkEq_eq hh.2
      simp only [Option.some.injEq] at h
      exact ⟨_, _, _, rfl, h.symm, hh.1⟩
    · cases h
  · cases h

theorem puT_ceq {neg : Bool} {ds : List DV} {pk : PK} (h : puT (.ceq neg) ds = some pk) : ∃ k a b c d, ds = [.cpx k a b, .cpx k c d] ∧ pk = .b := by
  simp only [puT] at h
  split at h
  · rename_i k a b k' c d
    split at h
    · rename_i hh
      obtain rfl := fkEq_eq hh
      simp only [Option.some.injEq] at h
      exact ⟨_, _, _, _, _, rfl, h.symm⟩
    · cases h
  · cases h

theorem puT_scmp {op : BinOp} {ds : List DV} {pk : PK} (h : puT (.scmp op) ds = some pk) : ∃ a b, ds = [.str a, .str b] ∧ pk = .b ∧ isCmp op = true := by
  simp only [puT] at h
  split at h
  · split at h
    · rename_i hh
      simp only [Option.some.injEq] at h
      exact ⟨_, _, rfl, h.symm, hh⟩
    · cases h
  · cases h

theorem puT_scat {ds : List DV} {pk : PK} (h : puT .scat ds = some pk) : ∃ a b, ds = [.str a, .str b] ∧ pk = .s := by
  simp only [puT] at h
  split at h
  · simp only [Option.some.injEq] at h
    exact ⟨_, _, rfl, h.symm⟩
  · cases h

theorem puT_sidx {ds : List DV} {pk : PK} (h : puT .sidx ds = some pk) : ∃ a k i, ds = [.str a, .int k i] ∧ pk = .i .u8 := by
  simp only [puT] at h
  split at h
  · simp only [Option.some.injEq] at h
    exact ⟨_, _, _, rfl, h.symm⟩
  · cases h

theorem puT_mn {ds : List DV} {pk : PK} (h : puT .mn ds = some pk) : ∃ k a b, ds = [.int k a, .int k b] ∧ pk = .i k := by
  simp only [puT] at h
  split at h
  · split at h
    · rename_i hh
      obtain rfl := ikEq_eq hh
      simp only [Option.some.injEq] at h
      exact ⟨_, _, _, rfl, h.symm⟩
    · cases h
  · cases h

theorem puT_mx {ds : List DV} {pk : PK} (h : puT .mx ds = some pk) : ∃ k a b, ds = [.int k a, .int k b] ∧ pk = .i k := by
  simp only [puT] at h
  split at h
  · split at h
    · rename_i hh
      obtain rfl := ikEq_eq hh
      simp only [Option.some.injEq] at h
      exact ⟨_, _, _, rfl, h.symm⟩
    · cases h
  · cases h

theorem puT_i2f {k : FloatKind} {ds : List DV} {pk : PK} (h : puT (.i2f k) ds = some pk) : ∃ k' n, ds = [.int k' n] ∧ pk = .f k := by
  simp only [puT] at h
  split at h
  · simp only [Option.some.injEq] at h
    exact ⟨_, _, rfl, h.symm⟩
  · cases h

theorem puT_f2i {k : IntKind} {ds : List DV} {pk : PK} (h : puT (.f2i k) ds = some pk) : ∃ f n, ds = [.flt f n] ∧ pk = .i k := by
  simp only [puT] at h
  split at h
  · simp only [Option.some.injEq] at h
    exact ⟨_, _, rfl, h.symm⟩
  · cases h

/-- What an operation on data tells. -/
def puV (p : Pu) (pk : PK) (ds : List DV) : DV :=
  match pk with
  | .b => .bool (puB p ds)
  | .i k => .int k (puI p ds)
  | .f k => .flt k (puF p ds)
  | .s => .str (puS p ds)

variable {O : Type} [Objs O]

theorem ok_pu {P : Program} {o : Oper} {s : St O} {K : St O → Prop} {p : Pu} {xs : List Operand} (hc : compOp P o.op = .pu p (xs.map cX)) (h : vop std P o.dst (.pu p (xs.map cX)) s K)
    (run : ∀ (ds : List DV) (pk : PK) (a : Act) (w : World), puT p ds = some pk → puC p ds → (∀ β N I, RelL (β : Nat → HI) N I w (ds.map SV.dv) (xs.map a.eval) → ∃ v, DRel I w (puV p pk ds) v ∧ ∀ w', (execOp a.eval o).run P w' = .ok (.value v) w')) :
    SemY P o s K [] := by
  simp only [vop] at h
  split at h
  · rename_i ds hds
    have key : ∀ (pk : PK), puT p ds = some pk → puC p ds → K (s.put o.dst (.dv (puV p pk ds))) → SemY P o s K [] := by
      intro pk hpk hpc hK
      refine sem_pure _ hK fun a w β I F hm he => ?_
      have h1 := evs_rel he xs
      rw [pdata_eq hds] at h1
      obtain ⟨v, hv, hr⟩ := run ds pk a w hpk hpc β _ I h1
      exact ⟨v, fun w' _ => hr w', by simp only [Rel]; exact hv⟩
    split at h
    · rename_i hpk; exact key _ hpk h.h h.k
    · rename_i k hpk; exact key _ hpk h.h h.k
    · rename_i k hpk; exact key _ hpk h.h h.k
    · rename_i hpk; exact key _ hpk h.h h.k
    · exact stuck_ok rfl hc h
  · exact stuck_ok rfl hc h

theorem run_floatCmp {P : Program} {op : BinOp} {k : FloatKind} {a b : Nat} {w : World} (h : isCmp op = true) : (Op.floatCmp op k a b).run P w = .ok (.bool (fcmpF op k a b)) w := by
  cases op <;> simp [isCmp] at h <;> simp [Op.floatCmp, fcmpF]

theorem run_stringCmp {P : Program} {op : BinOp} {a b : ByteArray} {w : World} (h : isCmp op = true) : (Op.stringOp op a b).run P w = .ok (.bool (cmpS op a b)) w := by
  cases op <;> simp [isCmp] at h <;> simp [Op.stringOp, cmpS]

theorem run_bin2 {P : Program} {ρ : Operand → Value} {o : Oper} {op : BinOp} {t t' : TypeId} {x y : Operand} {w : World} {v : Value} (ho : o.op = .binOp op t x y t')
    (hg : (eqGuard op t x y (ρ x) (ρ y)).run P w = .ok () w) (hb : (binOp op t (ρ x) (ρ y)).run P w = .ok v w) : (execOp ρ o).run P w = .ok (.value v) w := by
  simp only [execOp, ho]
  refine run_v ?_
  simp [hg, hb]

theorem guard_of {P : Program} {op : BinOp} {t : TypeId} {x y : Operand} {a b : Value} {w : World} (h1 : ∀ c, a ≠ .agg c) (h2 : a ≠ .nilIface) : (eqGuard op t x y a b).run P w = .ok () w := by
  cases op <;> cases a <;> first | (exact (h1 _ rfl).elim) | (exact (h2 rfl).elim) | simp [eqGuard]

theorem ok_puBin {P : Program} {o : Oper} {s : St O} {K : St O → Prop} {op : BinOp} {t t' : TypeId} {x y : Operand} {p : Pu} (ho : o.op = .binOp op t x y t') (hp : puOf P op t = some p)
    (hc : compOp P o.op = .pu p [cX x, cX y]) (h : vop std P o.dst (.pu p [cX x, cX y]) s K) : SemY P o s K [] := by
  refine ok_pu (xs := [x, y]) hc h fun ds pk a w hpk hpc β N I hr => ?_
  have two : ∀ {d1 d2 : DV}, RelL β N I w ([d1, d2].map SV.dv) ([x, y].map a.eval) → DRel I w d1 (a.eval x) ∧ DRel I w d2 (a.eval y) := by
    intro d1 d2 hr
    simp only [List.map_cons, List.map_nil, RelL, Rel, List.cons.injEq] at hr
    obtain ⟨y1, l1, ⟨rfl, rfl⟩, e1, y2, l2, ⟨rfl, _⟩, e2, _⟩ := hr
    exact ⟨e1, e2⟩
  unfold puOf at hp
  split at hp
  · split at hp
    · rename_i hop
      simp only [Option.some.injEq] at hp
      subst hp
      obtain ⟨k, u, v, rfl, rfl, _⟩ := puT_fcmp hpk
      obtain ⟨e1, e2⟩ := two hr
      simp only [DRel] at e1 e2
      refine ⟨_, by simp only [puV, DRel]; rfl, fun w' => run_bin2 ho (by rw [e1]; exact guard_of (by simp) (by simp)) ?_⟩
      rw [e1, e2]
      have := run_floatCmp (P := P) (k := k) (a := u) (b := v) (w := w') hop
      cases op <;> simp [isCmp] at hop <;> simpa [binOp, puB] using this
    · cases hp
  · have hcq : ∃ neg, p = .ceq neg ∧ op = (if neg then .neq else .eql) := by
      split at hp
      · simp only [Option.some.injEq] at hp; exact ⟨false, hp.symm, rfl⟩
      · simp only [Option.some.injEq] at hp; exact ⟨true, hp.symm, rfl⟩
      · cases hp
    obtain ⟨neg, rfl, rfl⟩ := hcq
    obtain ⟨k, r1, i1, r2, i2, rfl, rfl⟩ := puT_ceq hpk
    obtain ⟨e1, e2⟩ := two hr
    simp only [DRel] at e1 e2
    refine ⟨_, by simp only [puV, DRel]; rfl, fun w' => run_bin2 ho (by rw [e1]; exact guard_of (by simp) (by simp)) ?_⟩
    rw [e1, e2]
    have f1 := run_floatCmp (P := P) (op := .eql) (k := k) (a := r1) (b := r2) (w := w') rfl
    have f2 := run_floatCmp (P := P) (op := .eql) (k := k) (a := i1) (b := i2) (w := w') rfl
    cases neg <;> simp [binOp, Op.complexOp, Op.Complex.cmp, f1, f2, asBool, puB, ceqF]
  · have hs : (p = .scat ∧ op = .add) ∨ (p = .scmp op ∧ isCmp op = true) := by
      split at hp
      · simp only [Option.some.injEq] at hp; exact .inl ⟨hp.symm, rfl⟩
      · split at hp
        · rename_i hop
          simp only [Option.some.injEq] at hp
          exact .inr ⟨hp.symm, hop⟩
        · cases hp
    rcases hs with ⟨rfl, rfl⟩ | ⟨rfl, hop⟩
    · obtain ⟨u, v, rfl, rfl⟩ := puT_scat hpk
      obtain ⟨e1, e2⟩ := two hr
      simp only [DRel] at e1 e2
      refine ⟨_, by simp only [puV, DRel]; rfl, fun w' => run_bin2 ho (by rw [e1]; exact guard_of (by simp) (by simp)) ?_⟩
      rw [e1, e2]
      simp only [puC] at hpc
      have hmax : IntKind.i64.max = 9223372036854775807 := by decide
      have h2 : (u.size : Int) + (v.size : Int) ≤ 9223372036854775807 := by omega
      simp [binOp, Op.stringOp, puS, hmax, h2]
    · obtain ⟨u, v, rfl, rfl, _⟩ := puT_scmp hpk
      obtain ⟨e1, e2⟩ := two hr
      simp only [DRel] at e1 e2
      refine ⟨_, by simp only [puV, DRel]; rfl, fun w' => run_bin2 ho (by rw [e1]; exact guard_of (by simp) (by simp)) ?_⟩
      rw [e1, e2]
      have := run_stringCmp (P := P) (a := u) (b := v) (w := w') hop
      cases op <;> simp [isCmp] at hop <;> simpa [binOp, puB] using this
  · cases hp

theorem ok_puConv {P : Program} {o : Oper} {s : St O} {K : St O → Prop} {t t' : TypeId} {x : Operand} {p : Pu} (ho : o.op = .convert t t' x) (hp : cvOf P t t' = some p)
    (hc : compOp P o.op = .pu p [cX x]) (h : vop std P o.dst (.pu p [cX x]) s K) : SemY P o s K [] := by
  refine ok_pu (xs := [x]) hc h fun ds pk a w hpk hpc β N I hr => ?_
  have one : ∀ {d1 : DV}, RelL β N I w ([d1].map SV.dv) ([x].map a.eval) → DRel I w d1 (a.eval x) := by
    intro d1 hr
    simp only [List.map_cons, List.map_nil, RelL, Rel, List.cons.injEq] at hr
    obtain ⟨y1, l1, ⟨rfl, rfl⟩, e1, _⟩ := hr
    exact e1
  unfold cvOf at hp
  split at hp
  · rename_i f k h1 h2
    simp only [Option.some.injEq] at hp
    subst hp
    obtain ⟨f', n, rfl, rfl⟩ := puT_f2i hpk
    have e1 := one hr
    simp only [DRel] at e1
    simp only [puC, f2iF] at hpc
    obtain ⟨m, hm, hm1, hm2⟩ := hpc
    refine ⟨_, by simp only [puV, DRel]; rfl, fun w' => ?_⟩
    simp only [execOp, ho, e1]
    refine run_v ?_
    simp [convert, run_underlying' h1, run_underlying' h2, Conv.floatToInt, hm, hm1, hm2, puI, f2iF]
  · rename_i k f h1 h2
    simp only [Option.some.injEq] at hp
    subst hp
    obtain ⟨k', n, rfl, rfl⟩ := puT_i2f hpk
    have e1 := one hr
    simp only [DRel] at e1
    refine ⟨_, by simp only [puV, DRel]; rfl, fun w' => ?_⟩
    simp only [execOp, ho, e1]
    refine run_v ?_
    simp [convert, run_underlying' h1, run_underlying' h2, Conv.intToFloat, puF]
  · cases hp

theorem ok_index {P : Program} {o : Oper} {s : St O} {K : St O → Prop} {t : TypeId} {x y : Operand} (ho : o.op = .index t x y) (hu : P.underlying t = some .string)
    (hc : compOp P o.op = .pu .sidx [cX x, cX y]) (h : vop std P o.dst (.pu .sidx [cX x, cX y]) s K) : SemY P o s K [] := by
  refine ok_pu (xs := [x, y]) hc h fun ds pk a w hpk hpc β N I hr => ?_
  obtain ⟨u, k, i, rfl, rfl⟩ := puT_sidx hpk
  simp only [List.map_cons, List.map_nil, RelL, Rel, DRel, List.cons.injEq] at hr
  obtain ⟨y1, l1, ⟨rfl, rfl⟩, e1, y2, l2, ⟨rfl, _⟩, e2, _⟩ := hr
  simp only [puC] at hpc
  refine ⟨_, by simp only [puV, DRel]; rfl, fun w' => ?_⟩
  simp only [execOp, ho, e1, e2]
  refine run_v ?_
  have hlt : i.toNat < u.size := by omega
  have h2 : u[i.toNat]? = some u[i.toNat] := by simp [hlt]
  have h3 : u.data[i.toNat]? = some u[i.toNat] := by
    have : i.toNat < u.data.size := hlt
    rw [Array.getElem?_eq_getElem this]
    rfl
  simp [Instr.index, asIntOf, run_underlying' hu, hpc.1, h2, puI, h3]

theorem ok_minmax {P : Program} {o : Oper} {s : St O} {K : St O → Prop} {c : Call} {x y : Operand} {p : Pu} (ho : o.op = .call c) (hb : (c.callee = .builtin .min ∧ p = .mn) ∨ (c.callee = .builtin .max ∧ p = .mx))
    (hx : c.args.toList = [x, y]) (hc : compOp P o.op = .pu p [cX x, cX y]) (h : vop std P o.dst (.pu p [cX x, cX y]) s K) : SemY P o s K [] := by
  have h2 : c.args = #[x, y] := by rw [← hx]
  refine ok_pu (xs := [x, y]) hc h fun ds pk a w hpk hpc β N I hr => ?_
  rcases hb with ⟨hb, rfl⟩ | ⟨hb, rfl⟩
  · obtain ⟨k, u, v, rfl, rfl⟩ := puT_mn hpk
    simp only [List.map_cons, List.map_nil, RelL, Rel, DRel, List.cons.injEq] at hr
    obtain ⟨y1, l1, ⟨rfl, rfl⟩, e1, y2, l2, ⟨rfl, _⟩, e2, _⟩ := hr
    refine ⟨_, by simp only [puV, DRel]; rfl, fun w' => ?_⟩
    simp [execOp, ho, resolve, hb, invoke, builtin, h2, Builtin.min_, Builtin.min2, e1, e2, puI]
  · obtain ⟨k, u, v, rfl, rfl⟩ := puT_mx hpk
    simp only [List.map_cons, List.map_nil, RelL, Rel, DRel, List.cons.injEq] at hr
    obtain ⟨y1, l1, ⟨rfl, rfl⟩, e1, y2, l2, ⟨rfl, _⟩, e2, _⟩ := hr
    refine ⟨_, by simp only [puV, DRel]; rfl, fun w' => ?_⟩
    simp [execOp, ho, resolve, hb, invoke, builtin, h2, Builtin.max_, Builtin.max2, e1, e2, puI]

theorem ok_cpl {P : Program} {o : Oper} {s : St O} {K : St O → Prop} {c : Call} {x y : Operand} (ho : o.op = .call c) (hb : c.callee = .builtin .complex)
    (hx : c.args.toList = [x, y]) (hc : compOp P o.op = .cpl (cX x) (cX y)) (h : vop std P o.dst (.cpl (cX x) (cX y)) s K) : SemY P o s K [] := by
  have h2 : c.args = #[x, y] := by rw [← hx]
  simp only [vop] at h
  split at h
  · rename_i k u k' v hx1 hy1
    split at h
    · rename_i hk
      obtain rfl := fkEq_eq hk
      refine sem_pure _ h fun a w β I F hm he => ⟨.complex k u v, fun w' _ => ?_, by simp [Rel, DRel]⟩
      have e1 := ev_rel he x
      have e2 := ev_rel he y
      rw [hx1] at e1
      rw [hy1] at e2
      simp only [Rel, DRel] at e1 e2
      have hr : Builtin.complex_ c.argTypes o.type #[.float k u, .float k v] = (if k = k then pure (.complex k u v) else stuck "complex: parts of different kinds") := rfl
      simp [execOp, ho, resolve, hb, invoke, builtin, h2, hr, e1, e2]
    · exact stuck_ok rfl hc h
  · exact stuck_ok rfl hc h

theorem ok_cpart {P : Program} {o : Oper} {s : St O} {K : St O → Prop} {c : Call} {x : Operand} {im : Bool} (ho : o.op = .call c) (hb : c.callee = .builtin (if im then .imag else .real))
    (hx : c.args.toList = [x]) (hc : compOp P o.op = .cpart im (cX x)) (h : vop std P o.dst (.cpart im (cX x)) s K) : SemY P o s K [] := by
  have h2 : c.args = #[x] := by rw [← hx]
  simp only [vop] at h
  split at h
  · rename_i k u v hx1
    cases im with
    | true =>
      refine sem_pure _ h fun a w β I F hm he => ⟨.float k v, fun w' _ => ?_, by simp [Rel, DRel]⟩
      have e1 := ev_rel he x
      rw [hx1] at e1
      simp only [Rel, DRel] at e1
      have hr : Builtin.imag_ c.argTypes o.type #[.complex k u v] = pure (.float k v) := rfl
      simp [execOp, ho, resolve, hb, invoke, builtin, h2, hr, e1]
    | false =>
      refine sem_pure _ h fun a w β I F hm he => ⟨.float k u, fun w' _ => ?_, by simp [Rel, DRel]⟩
      have e1 := ev_rel he x
      rw [hx1] at e1
      simp only [Rel, DRel] at e1
      have hr : Builtin.real_ c.argTypes o.type #[.complex k u v] = pure (.float k u) := rfl
      simp [execOp, ho, resolve, hb, invoke, builtin, h2, hr, e1]
  · exact stuck_ok rfl hc h

theorem ok_tas {P : Program} {o : Oper} {s : St O} {K : St O → Prop} {t0 t : TypeId} {d : TypeDesc} {x : Operand} {z : DV} {ok : Bool} (ho : o.op = .typeAssert x t0 t ok) (hu : P.underlying t = some d)
    (hd : ∀ m, d ≠ .interface m) (hz : zero1T P t = some z) (hc : compOp P o.op = .tas t z ok (cX x)) (h : vop std P o.dst (.tas t z ok (cX x)) s K) : SemY P o s K [] := by
  have zero : ∀ (β : Nat → HI) (N : Nat) (I : Nat → Prop) (w : World), ∃ v, (∀ w', (zeroValue t).run P w' = .ok v w') ∧ Rel β N I w (.dv z) v := by
    intro β N I w
    unfold zero1T at hz
    split at hz
    · rename_i v hv
      split at hz
      · rename_i d' hd'
        simp only [Option.some.injEq] at hz
        subst hz
        cases hi : P.info? t with
        | none => rw [hi] at hv; cases hv
        | some i =>
          rw [hi] at hv
          refine ⟨v, fun w' => run_zero hi hv, ?_⟩
          rw [← hd']
          exact cV_rel v
      · cases hz
    · cases hz
  have rn : ∀ {a : Act} {w : World} {v : Value}, (Instr.typeAssert (a.eval x) t0 t ok).run P w = .ok v w → (execOp a.eval o).run P w = .ok (.value v) w := by
    intro a w v hr
    simp only [execOp, ho]
    exact run_v hr
  simp only [vop] at h
  split at h
  · rename_i t' v hx
    split at h
    · rename_i ht
      subst ht
      refine sem_pure' fun a w β I F hm he => ?_
      have e1 := ev_rel he x
      rw [hx] at e1
      simp only [Rel] at e1
      obtain ⟨y, e1, hy⟩ := e1
      refine ⟨.tuple #[y, .bool true], _, fun w' _ => rn ?_, ?_, h⟩
      · rw [e1]
        cases d with
        | interface m => exact (hd m rfl).elim
        | _ => simp [Instr.typeAssert, run_underlying' hu]
      · simp only [Rel]
        exact ⟨[y, .bool true], rfl, y, _, rfl, hy, _, [], rfl, by simp [Rel, DRel], rfl⟩
    · rename_i ht
      refine sem_pure' fun a w β I F hm he => ?_
      have e1 := ev_rel he x
      rw [hx] at e1
      simp only [Rel] at e1
      obtain ⟨y, e1, hy⟩ := e1
      obtain ⟨zv, hz1, hz2⟩ := zero β s.mem.length I w
      refine ⟨.tuple #[zv, .bool false], _, fun w' _ => rn ?_, ?_, h⟩
      · rw [e1]
        cases d with
        | interface m => exact (hd m rfl).elim
        | _ => simp [Instr.typeAssert, run_underlying' hu, ht, hz1]
      · simp only [Rel]
        exact ⟨[zv, .bool false], rfl, zv, _, rfl, hz2, _, [], rfl, by simp [Rel, DRel], rfl⟩
  · rename_i hx
    refine sem_pure' fun a w β I F hm he => ?_
    have e1 := ev_rel he x
    rw [hx] at e1
    simp only [Rel, DRel] at e1
    obtain ⟨zv, hz1, hz2⟩ := zero β s.mem.length I w
    refine ⟨.tuple #[zv, .bool false], _, fun w' _ => rn ?_, ?_, h⟩
    · rw [e1]
      cases d with
      | interface m => exact (hd m rfl).elim
      | _ => simp [Instr.typeAssert, run_underlying' hu, hz1]
    · simp only [Rel]
      exact ⟨[zv, .bool false], rfl, zv, _, rfl, hz2, _, [], rfl, by simp [Rel, DRel], rfl⟩
  · rename_i t' v hx
    split at h
    · rename_i ht
      subst ht
      refine sem_pure' fun a w β I F hm he => ?_
      have e1 := ev_rel he x
      rw [hx] at e1
      simp only [Rel] at e1
      obtain ⟨y, e1, hy⟩ := e1
      refine ⟨y, _, fun w' _ => rn ?_, hy, h⟩
      rw [e1]
      cases d with
      | interface m => exact (hd m rfl).elim
      | _ => simp [Instr.typeAssert, run_underlying' hu]
    · exact stuck_ok rfl hc h
  · exact stuck_ok rfl hc h

theorem dvSame_val {β : Nat → HI} {N : Nat} {I : Nat → Prop} {w : World} : ∀ {l r : List SV} {xs ys : List Value}, RelL β N I w l xs → RelL β N I w r ys → dvSames l r = true → all2 valSame xs ys = true ∧ all2 valEq xs ys = dvEqs l r
  | [], [], xs, ys, h1, h2, _ => by
    simp only [RelL] at h1 h2
    subst h1; subst h2
    exact ⟨rfl, rfl⟩
  | a :: l, b :: r, xs, ys, h1, h2, h => by
    simp only [RelL] at h1 h2
    obtain ⟨x, xs', rfl, hx, hxs⟩ := h1
    obtain ⟨y, ys', rfl, hy, hys⟩ := h2
    simp only [dvSames, Bool.and_eq_true] at h
    obtain ⟨i1, i2⟩ := dvSame_val hxs hys h.2
    have h0 := h.1
    unfold dvSame at h0
    split at h0
    · simp only [Rel, DRel] at hx hy
      subst hx; subst hy
      exact ⟨by simp [all2, valSame, h0, i1], by simp [all2, valEq, dvEqs, dvEq, i2]⟩
    · cases h0
  | [], _ :: _, _, _, _, _, h => by simp [dvSames] at h
  | _ :: _, [], _, _, _, _, h => by simp [dvSames] at h

theorem dsh_val {β : Nat → HI} {N : Nat} {I : Nat → Prop} {w : World} : ∀ {l : List SV} {sh : List Bool} {xs ys : List Value}, dshs l = some sh → RelL β N I w l xs → RelL β N I w l ys → xs = ys ∧ fits sh xs = true
  | [], sh, xs, ys, h, h1, h2 => by
    simp only [RelL] at h1 h2
    simp only [dshs, Option.some.injEq] at h
    subst h1; subst h2; subst h
    exact ⟨rfl, rfl⟩
  | a :: l, sh, xs, ys, h, h1, h2 => by
    simp only [RelL] at h1 h2
    obtain ⟨x, xs', rfl, hx, hxs⟩ := h1
    obtain ⟨y, ys', rfl, hy, hys⟩ := h2
    simp only [dshs] at h
    split at h
    · rename_i b r hb hr
      simp only [Option.some.injEq] at h
      subst h
      obtain ⟨rfl, i2⟩ := dsh_val hr hxs hys
      unfold dsh at hb
      split at hb
      · simp only [Rel, DRel] at hx hy
        simp only [Option.some.injEq] at hb
        subst hx; subst hy; subst hb
        exact ⟨rfl, by simp [fits, vfit, i2]⟩
      · simp only [Rel, DRel] at hx hy
        simp only [Option.some.injEq] at hb
        subst hx; subst hy; subst hb
        exact ⟨rfl, by simp [fits, vfit, i2]⟩
      · cases hb
    · cases h

theorem ok_eqa {P : Program} {o : Oper} {s : St O} {K : St O → Prop} {t t' : TypeId} {x y : Operand} {n : Nat} {neg : Bool} (ho : o.op = .binOp (if neg then .neq else .eql) t x y t')
    (hc : compOp P o.op = .eqa t n neg (cX x) (cX y)) (h : vop std P o.dst (.eqa t n neg (cX x) (cX y)) s K) : SemY P o s K [] := by
  simp only [vop] at h
  split at h
  · rename_i l r hx hy
    split at h
    · rename_i hs
      obtain ⟨hE, hK⟩ := h
      refine sem_pure _ hK fun a w β I F hm he => ?_
      have e1 := ev_rel he x
      have e2 := ev_rel he y
      rw [hx] at e1
      rw [hy] at e2
      simp only [Rel] at e1 e2
      obtain ⟨xs, e1, h1⟩ := e1
      obtain ⟨ys, e2, h2⟩ := e2
      obtain ⟨i1, i2⟩ := dvSame_val h1 h2 hs.1
      have hln : r.length = l.length := by
        have : ∀ {l r : List SV}, dvSames l r = true → r.length = l.length := by
          intro l
          induction l with
          | nil => intro r h; cases r with | nil => rfl | cons _ _ => simp [dvSames] at h
          | cons a l ih => intro r h; cases r with | nil => simp [dvSames] at h | cons b r => simp only [dvSames, Bool.and_eq_true] at h; simp [ih h.2]
        exact this hs.1
      have hrun := fun w' : World => hE.eq xs ys w' (by rw [h1.length, hs.2]) (by rw [h2.length, hln, hs.2]) i1
      rw [i2] at hrun
      refine ⟨.bool (vnot std neg (dvEqs l r)), fun w' _ => ?_, by simp [Rel, DRel, std]⟩
      have hg : ∀ op, (eqGuard op t x y (.agg xs.toArray) (.agg ys.toArray)).run P w' = .ok () w' := by
        intro op
        cases op <;> simp [eqGuard, hE.gd]
      refine run_bin2 ho (by rw [e1, e2]; exact hg _) ?_
      rw [e1, e2]
      cases neg
      · simp [binOp, hrun, vnot]
      · simp [binOp, hrun, vnot, std]
    · split at h
      · rename_i sh hsh
        obtain ⟨⟨hlr, hE⟩, hK⟩ := h
        subst hlr
        refine sem_pure _ hK fun a w β I F hm he => ?_
        have e1 := ev_rel he x
        have e2 := ev_rel he y
        rw [hx] at e1
        rw [hy] at e2
        simp only [Rel] at e1 e2
        obtain ⟨xs, e1, h1⟩ := e1
        obtain ⟨ys, e2, h2⟩ := e2
        obtain ⟨rfl, i2⟩ := dsh_val hsh h1 h2
        have hrun := fun w' : World => hE.eq xs w' i2
        refine ⟨.bool (vnot std neg true), fun w' _ => ?_, by simp [Rel, DRel]⟩
        have hg : ∀ op, (eqGuard op t x y (.agg xs.toArray) (.agg xs.toArray)).run P w' = .ok () w' := by
          intro op
          cases op <;> simp [eqGuard, hE.gd]
        refine run_bin2 ho (by rw [e1, e2]; exact hg _) ?_
        rw [e1, e2]
        cases neg
        · simp [binOp, hrun, vnot]
        · simp [binOp, hrun, vnot, std]
      · exact stuck_ok rfl hc h
  · exact stuck_ok rfl hc h

theorem intsTail_ok {β : Nat → HI} {N : Nat} {I : Nat → Prop} {w : World} {k : IntKind} : ∀ {l : List SV} {xs : List Value} {ns : List Int}, RelL β N I w l xs → intsTail k l = some ns → xs = ns.map (Value.int k)
  | [], xs, ns, h, hk => by simp only [intsTail, Option.some.injEq] at hk; subst hk; simpa only [RelL, List.map_nil] using h
  | v :: l, xs, ns, h, hk => by
    simp only [RelL] at h
    obtain ⟨y, ys, rfl, h1, h2⟩ := h
    unfold intsTail at hk
    split at hk
    · rename_i e; cases e
    · rename_i k' n r e
      cases e
      split at hk
      · rename_i l' he hl
        obtain rfl := ikEq_eq he
        simp only [Option.some.injEq] at hk
        subst hk
        simp only [Rel, DRel] at h1
        rw [List.map_cons, h1, intsTail_ok h2 hl]
      · cases hk
    · cases hk

theorem ok_idxV {P : Program} {o : Oper} {s : St O} {K : St O → Prop} {t e : TypeId} {n : Nat} {x y : Operand} {ik : IntKind} (ho : o.op = .index t x y) (hu : P.underlying t = some (.array n e)) (_hue : P.underlying e = some (.int ik))
    (hl : ldT P e = some none) (hs : sizeT P e = some 1) (hc : compOp P o.op = .idxV n (cX x) (cX y)) (h : vop std P o.dst (.idxV n (cX x) (cX y)) s K) : SemY P o s K [] := by
  simp only [vop] at h
  split at h
  · rename_i l k i hx hy
    split at h
    · rename_i kk ns hns
      split at h
      · rename_i hlen
        obtain ⟨hi, h⟩ := h
        have hi' : 0 ≤ i ∧ i < (n : Int) := hi
        replace h := h _ rfl (by show i.toNat < n; omega)
        refine sem_pure _ h fun a w β I F hm he => ?_
        have e1 := ev_rel he x
        have e2 := ev_rel he y
        rw [hx] at e1
        rw [hy] at e2
        simp only [Rel, DRel] at e1 e2
        obtain ⟨xs, e1, hr⟩ := e1
        have hxs : xs = ns.map (Value.int kk) := by
          unfold intsOf at hns
          split at hns
          · rename_i k0 n0 r
            split at hns
            · rename_i l' hl'
              simp only [Option.some.injEq, Prod.mk.injEq] at hns
              obtain ⟨rfl, rfl⟩ := hns
              simp only [RelL, Rel, DRel] at hr
              obtain ⟨y0, ys, rfl, rfl, h2⟩ := hr
              rw [List.map_cons, intsTail_ok h2 hl']
            · cases hns
          · cases hns
        subst hxs
        have hlt : i.toNat < ns.length := by omega
        refine ⟨.int kk (ns.getD i.toNat 0), fun w' _ => ?_, by simp [Rel, DRel, std]⟩
        simp only [execOp, ho, e1, e2]
        refine run_v ?_
        obtain ⟨_, _, _, _, ⟨h0, _⟩ | ⟨_, hag⟩⟩ := ldT_spec hl
        · cases h0
        have hgd : ns.getD i.toNat 0 = ns[i.toNat] := by simp [hlt]
        rw [hgd]
        simp [Instr.index, asIntOf, run_underlying' hu, hi', run_sizeOf hs, part, hag, hlt]
      · exact stuck_ok rfl hc h
    · exact stuck_ok rfl hc h
  · exact stuck_ok rfl hc h

end Go.V
