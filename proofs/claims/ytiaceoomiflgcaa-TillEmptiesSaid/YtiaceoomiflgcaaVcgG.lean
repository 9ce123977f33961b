/-
  The conditions suffice: fields, parts, lengths, comparisons.
-/
import Derived.Test.YtiaceoomiflgcaaVcgF
namespace Go.V
variable {O : Type} [Objs O]
section
variable {β : Nat → HI} {N : Nat} {I : Nat → Prop} {w : World}

theorem RelL.drop : ∀ {s l} (n : Nat), RelL β N I w s l → RelL β N I w (s.drop n) (l.drop n)
  | _, _, 0, h => h
  | [], _, _ + 1, h => by simp only [RelL] at h; subst h; simp [RelL]
  | _ :: _, _, n + 1, h => by
    simp only [RelL] at h
    obtain ⟨y, ys, rfl, _, h⟩ := h
    exact RelL.drop n h

theorem RelL.take : ∀ {s l} (n : Nat), RelL β N I w s l → RelL β N I w (s.take n) (l.take n)
  | _, _, 0, _ => by simp [RelL]
  | [], _, _ + 1, h => by simp only [RelL] at h; subst h; simp [RelL]
  | _ :: _, _, n + 1, h => by
    simp only [RelL] at h
    obtain ⟨y, ys, rfl, hx, h⟩ := h
    exact ⟨y, _, rfl, hx, RelL.take n h⟩

/-- What has cells, and which. -/
theorem cells_rel {sv : SV} {l : List SV} {v : Value} (h : sv.cells = some l) (hr : Rel β N I w sv v) : ∃ cs : List Value, v.cells.toList = cs ∧ RelL β N I w l cs := by
  cases sv with
  | junk => simp [SV.cells] at h
  | tup => simp [SV.cells] at h
  | agg vs =>
    simp only [SV.cells, Option.some.injEq] at h
    subst h
    simp only [Rel] at hr
    obtain ⟨cs, rfl, hr⟩ := hr
    exact ⟨cs, by simp [Value.cells], hr⟩
  | dv d =>
    simp only [SV.cells, Option.some.injEq] at h
    subst h
    refine ⟨[v], ?_, ⟨v, [], rfl, hr, rfl⟩⟩
    simp only [Rel] at hr
    cases d <;> simp only [DRel] at hr <;> first | (subst hr; rfl) | (obtain ⟨a, rfl⟩ := hr; rfl) | (obtain ⟨a, c, rfl, _⟩ := hr; rfl)
  | ptr => simp only [SV.cells, Option.some.injEq] at h; subst h; refine ⟨[v], ?_, ⟨v, [], rfl, hr, rfl⟩⟩; simp only [Rel] at hr; rw [hr.2]; rfl
  | pat => simp only [SV.cells, Option.some.injEq] at h; subst h; refine ⟨[v], ?_, ⟨v, [], rfl, hr, rfl⟩⟩; simp only [Rel] at hr; rw [hr.2]; rfl
  | vec => simp only [SV.cells, Option.some.injEq] at h; subst h; refine ⟨[v], ?_, ⟨v, [], rfl, hr, rfl⟩⟩; simp only [Rel] at hr; rw [hr.2]; rfl
  | mp => simp only [SV.cells, Option.some.injEq] at h; subst h; refine ⟨[v], ?_, ⟨v, [], rfl, hr, rfl⟩⟩; simp only [Rel] at hr; rw [hr.2]; rfl
  | gp => simp only [SV.cells, Option.some.injEq] at h; subst h; refine ⟨[v], ?_, ⟨v, [], rfl, hr, rfl⟩⟩; simp only [Rel] at hr; rw [hr]; rfl
  | win => simp only [SV.cells, Option.some.injEq] at h; subst h; refine ⟨[v], ?_, ⟨v, [], rfl, hr, rfl⟩⟩; simp only [Rel] at hr; obtain ⟨_, _, _, _, rfl, _⟩ := hr; rfl
  | pseq =>
    simp only [SV.cells, Option.some.injEq] at h; subst h; refine ⟨[v], ?_, ⟨v, [], rfl, hr, rfl⟩⟩; simp only [Rel] at hr
    obtain ⟨_, b, o, cs, T, fz, rfl, _⟩ := hr
    rfl
  | fn => simp only [SV.cells, Option.some.injEq] at h; subst h; refine ⟨[v], ?_, ⟨v, [], rfl, hr, rfl⟩⟩; simp only [Rel] at hr; obtain ⟨_, rfl, _⟩ := hr; rfl
  | bfn => simp only [SV.cells, Option.some.injEq] at h; subst h; refine ⟨[v], ?_, ⟨v, [], rfl, hr, rfl⟩⟩; simp only [Rel] at hr; obtain ⟨_, rfl, _⟩ := hr; rfl
  | mfn => simp only [SV.cells, Option.some.injEq] at h; subst h; refine ⟨[v], ?_, ⟨v, [], rfl, hr, rfl⟩⟩; simp only [Rel] at hr; obtain ⟨_, rfl, _⟩ := hr; rfl
  | ifc => simp only [SV.cells, Option.some.injEq] at h; subst h; refine ⟨[v], ?_, ⟨v, [], rfl, hr, rfl⟩⟩; simp only [Rel] at hr; obtain ⟨_, rfl, _⟩ := hr; rfl

end

theorem ok_field {P : Program} {o : Oper} {s : St O} {K : St O → Prop} {t u : TypeId} {x : Operand} {f off : Nat} {m : Option Nat} (ho : o.op = .field t x f) (hf : fieldT P t f = some (off, u))
    (hl : ldT P u = some m) (hc : compOp P o.op = .fld off m (cX x)) (h : vop std P o.dst (.fld off m (cX x)) s K) : SemY P o s K [] := by
  obtain ⟨fs, fd, hu, hfd, hoff, hty⟩ := fieldT_spec hf
  obtain ⟨d, i, hud, hi, hcase⟩ := ldT_spec hl
  have run : ∀ (cs : Array Value) (w : World) (v : Value), (part u cs off).run P w = .ok v w → (Instr.field t (.agg cs) f).run P w = .ok v w := by
    intro cs w v hv
    simp [Instr.field, run_underlying' hu, hfd, asAgg, hoff, hty, hv]
  cases m with
  | none =>
    obtain ⟨h0, _⟩ | ⟨_, hagg⟩ := hcase
    · cases h0
    simp only [vop] at h
    split at h
    · rename_i l hx
      split at h
      · rename_i v hv
        refine sem_pure _ h fun a w β I F hm he => ?_
        have h1 := ev_rel he x
        rw [hx] at h1
        simp only [Rel] at h1
        obtain ⟨cs, hv1, hr⟩ := h1
        obtain ⟨y, hy, hry⟩ := hr.get hv
        refine ⟨y, fun w' _ => ?_, hry⟩
        simp only [execOp, ho, hv1]
        exact run_v (run _ _ _ (by simp [part, hagg, hy]))
      · exact stuck_ok rfl hc h
    · exact stuck_ok rfl hc h
  | some m =>
    obtain ⟨h0, hagg⟩ | ⟨h0, _⟩ := hcase
    rotate_left
    · cases h0
    simp only [Option.some.injEq] at h0
    subst h0
    simp only [vop] at h
    split at h
    · rename_i l hx
      split at h
      · rename_i hle
        refine sem_pure _ h fun a w β I F hm he => ?_
        have h1 := ev_rel he x
        rw [hx] at h1
        simp only [Rel] at h1
        obtain ⟨cs, hv1, hr⟩ := h1
        refine ⟨.agg ((cs.drop off).take i.size).toArray, fun w' _ => ?_, by simp only [Rel]; exact ⟨_, rfl, (hr.drop off).take _⟩⟩
        simp only [execOp, ho, hv1]
        refine run_v (run _ _ _ ?_)
        have hs : ∀ w, (sizeOf u).run P w = .ok i.size w := fun w => by simp [sizeOf, typeInfo, hi]
        simp [part, hagg, hs, Nat.add_sub_cancel_left]
      · exact stuck_ok rfl hc h
    · exact stuck_ok rfl hc h

theorem ok_extract {P : Program} {o : Oper} {s : St O} {K : St O → Prop} {x : Operand} {i : Nat} (ho : o.op = .extract x i) (h : vop std P o.dst (.ext (cX x) i) s K) : SemY P o s K [] := by
  have hc : compOp P o.op = .ext (cX x) i := by rw [ho]; rfl
  simp only [vop] at h
  split at h
  · rename_i l hx
    split at h
    · rename_i v hv
      refine sem_pure _ h fun a w β I F hm he => ?_
      have h1 := ev_rel he x
      rw [hx] at h1
      simp only [Rel] at h1
      obtain ⟨cs, hv1, hr⟩ := h1
      obtain ⟨y, hy, hry⟩ := hr.get hv
      refine ⟨y, fun w' _ => ?_, hry⟩
      simp [execOp, ho, hv1, Instr.extract, hy]
    · exact stuck_ok rfl hc h
  · exact stuck_ok rfl hc h

theorem ok_nilCheck {P : Program} {o : Oper} {s : St O} {K : St O → Prop} {x : Operand} (ho : o.op = .nilCheck x) (h : vop std P o.dst (.nchk (cX x)) s K) : SemY P o s K [] := by
  have hc : compOp P o.op = .nchk (cX x) := by rw [ho]; rfl
  simp only [vop] at h
  split at h
  · rename_i hh p hx
    refine sem_pure _ h fun a w β I F hm he => ?_
    have h1 := ev_rel he x
    rw [hx] at h1
    have h2 := h1
    simp only [Rel] at h2
    exact ⟨a.eval x, fun w' _ => by simp [execOp, ho, h2.2], h1⟩
  · rename_i hh p i nn sz f hx
    refine sem_pure _ h fun a w β I F hm he => ?_
    have h1 := ev_rel he x
    rw [hx] at h1
    have h2 := h1
    simp only [Rel] at h2
    exact ⟨a.eval x, fun w' _ => by simp [execOp, ho, h2.2], h1⟩
  · rename_i n sz at_ i f hx
    refine sem_pure _ h fun a w β I F hm he => ?_
    have h1 := ev_rel he x
    rw [hx] at h1
    have h2 := h1
    simp only [Rel] at h2
    obtain ⟨_, b, p, cs, T, fz, hv, _⟩ := h2
    exact ⟨a.eval x, fun w' _ => by simp [execOp, ho, hv], h1⟩
  · rename_i f l hx
    refine sem_pure _ h fun a w β I F hm he => ?_
    have h1 := ev_rel he x
    rw [hx] at h1
    have h2 := h1
    simp only [Rel] at h2
    obtain ⟨cs, hv, _⟩ := h2
    exact ⟨a.eval x, fun w' _ => by simp [execOp, ho, hv], h1⟩
  · rename_i f l hx
    refine sem_pure _ h fun a w β I F hm he => ?_
    have h1 := ev_rel he x
    rw [hx] at h1
    have h2 := h1
    simp only [Rel] at h2
    obtain ⟨cs, hv, _⟩ := h2
    exact ⟨a.eval x, fun w' _ => by simp [execOp, ho, hv], h1⟩
  · rename_i m t v hx
    obtain ⟨⟨f, hf⟩, hK⟩ := h
    refine sem_pure _ hK fun a w β I F hm he => ?_
    have h1 := ev_rel he x
    rw [hx] at h1
    have h2 := h1
    simp only [Rel] at h2
    obtain ⟨z, hv, y, rfl, _⟩ := h2
    refine ⟨a.eval x, fun w' _ => ?_, h1⟩
    have hna : ∀ n, (nilAhead (n + 1) t y m).run P w' = .ok (some false) w' := by
      intro n
      unfold methOf at hf
      split at hf
      · rename_i e i hu hi
        split at hf
        · rename_i mt hm'
          split at hf
          · rename_i f' hmf hmp
            have hpl : mt.path.toList = [] := by simpa using hmp
            simp [nilAhead, typeInfo, hi, hm', hpl, hmf, followBlind]
          · cases hf
        · cases hf
      · cases hf
    obtain ⟨n0, hn0⟩ : ∃ n, P.types.size + Made.depth = n + 1 := ⟨P.types.size + 99, by simp [Made.depth]⟩
    have hna' := hna n0
    rw [← hn0] at hna'
    simp only [execOp, ho, hv]
    simp [hna']
  · rename_i t v hx
    refine sem_pure _ h fun a w β I F hm he => ?_
    have h1 := ev_rel he x
    rw [hx] at h1
    have h2 := h1
    simp only [Rel] at h2
    obtain ⟨y, hv, _⟩ := h2
    exact ⟨a.eval x, fun w' _ => by simp [execOp, ho, hv], h1⟩
  · exact stuck_ok rfl hc h

theorem ok_makeInterface {P : Program} {o : Oper} {s : St O} {K : St O → Prop} {t : TypeId} {x : Operand} {d : TypeDesc} (ho : o.op = .makeInterface t x) (hu : P.underlying t = some d)
    (hd : ∀ ms, d ≠ .interface ms) (h : vop std P o.dst (.mki t (cX x)) s K) : SemY P o s K [] := by
  simp only [vop] at h
  refine sem_pure _ h fun a w β I F hm he => ⟨.iface t (a.eval x), fun w' _ => ?_, by simp only [Rel]; exact ⟨_, rfl, ev_rel he x⟩⟩
  cases d with
  | interface ms => exact (hd ms rfl).elim
  | _ => simp [execOp, ho, Instr.makeInterface, run_underlying' hu]

theorem ok_makeFunc {P : Program} {o : Oper} {s : St O} {K : St O → Prop} {f : FuncId} {first caps : Array Operand} (ho : o.op = .makeFunc (.func f) first caps) (h0 : first.isEmpty = true)
    (h : vop std P o.dst (.mkf f (caps.toList.map cX)) s K) : SemY P o s K [] := by
  simp only [vop] at h
  have h0' : first = #[] := by simpa using h0
  subst h0'
  refine sem_pure _ h fun a w β I F hm he => ⟨.func (.func f) #[] (caps.toList.map a.eval).toArray, fun w' _ => ?_, by simp only [Rel]; exact ⟨_, rfl, evs_rel he _⟩⟩
  simp [execOp, ho, Instr.makeFunc]
  rw [← Array.toList_map]

/-- An operation that leaves the world as it is: what it tells may be told once its operands are at hand. -/
theorem ok_makeBound {P : Program} {o : Oper} {s : St O} {K : St O → Prop} {f : FuncId} {first caps : Array Operand} (ho : o.op = .makeFunc (.func f) first caps) (h0 : caps.isEmpty = true)
    (h : vop std P o.dst (.mkb f (first.toList.map cX)) s K) : SemY P o s K [] := by
  simp only [vop] at h
  have h0' : caps = #[] := by simpa using h0
  subst h0'
  refine sem_pure _ h fun a w β I F hm he => ⟨.func (.func f) (first.toList.map a.eval).toArray #[], fun w' _ => ?_, by simp only [Rel]; exact ⟨_, rfl, evs_rel he _⟩⟩
  simp [execOp, ho, Instr.makeFunc]
  rw [← Array.toList_map]

theorem ok_makeMethod {P : Program} {o : Oper} {s : St O} {K : St O → Prop} {m : String} {x : Operand} {first caps : Array Operand} (ho : o.op = .makeFunc (.method m) first caps) (h0 : caps.isEmpty = true) (h1 : first.toList = [x])
    (h : vop std P o.dst (.mkm m (cX x)) s K) : SemY P o s K [] := by
  simp only [vop] at h
  have h0' : caps = #[] := by simpa using h0
  have h1' : first = #[x] := by rw [← h1]
  subst h0'; subst h1'
  refine sem_pure _ h fun a w β I F hm he => ⟨.func (.method m) #[a.eval x] #[], fun w' _ => ?_, by simp only [Rel]; exact ⟨_, rfl, ev_rel he _⟩⟩
  simp [execOp, ho, Instr.makeFunc]

theorem sem_pure' {P : Program} {o : Oper} {s : St O} {K : St O → Prop} {L : List Nat} (h : SemY P o s K L) : SemY P o s K L := h

theorem run_len {P : Program} {ρ : Operand → Value} {o : Oper} {c : Call} {t : TypeId} {x : Operand} {w : World} (ho : o.op = .call c) (hb : c.callee = .builtin .len) (ht : c.argTypes.toList = [t])
    (hx : c.args.toList = [x]) : (execOp ρ o).run P w = (do pure (.value (← Builtin.len_ #[t] o.type #[ρ x])) : Sem Next).run P w := by
  have h1 : c.argTypes = #[t] := by rw [← ht]
  have h2 : c.args = #[x] := by rw [← hx]
  simp [execOp, ho, resolve, hb, invoke, builtin, h1, h2]

theorem ok_lenS {P : Program} {o : Oper} {s : St O} {K : St O → Prop} {c : Call} {t : TypeId} {x : Operand} (ho : o.op = .call c) (hb : c.callee = .builtin .len) (ht : c.argTypes.toList = [t])
    (hx : c.args.toList = [x]) (hu : P.underlying t = some .string) (hc : compOp P o.op = .len true (cX x)) (h : vop std P o.dst (.len true (cX x)) s K) : SemY P o s K [] := by
  simp only [vop] at h
  split at h
  · rename_i b hx1
    refine sem_pure _ h fun a w β I F hm he => ⟨.int .i64 b.size, fun w' _ => ?_, by simp [Rel, DRel, std]⟩
    have h1 := ev_rel he x
    rw [hx1] at h1
    simp only [Rel, DRel] at h1
    rw [run_len ho hb ht hx]
    exact run_v (by simp [Builtin.len_, h1, run_underlying' hu, goInt])
  · exact stuck_ok rfl hc h

theorem ok_lenV {P : Program} {o : Oper} {s : St O} {K : St O → Prop} {c : Call} {t e : TypeId} {x : Operand} (ho : o.op = .call c) (hb : c.callee = .builtin .len) (ht : c.argTypes.toList = [t])
    (hx : c.args.toList = [x]) (hu : P.underlying t = some (.slice e)) (hc : compOp P o.op = .len false (cX x)) (h : vop std P o.dst (.len false (cX x)) s K) : SemY P o s K [] := by
  have run : ∀ {a : Act} {w : World} {b n k}, a.eval x = .slice b n k → (execOp a.eval o).run P w = .ok (.value (.int .i64 n)) w := by
    intro a w b n k h1
    rw [run_len ho hb ht hx]
    exact run_v (by simp [Builtin.len_, h1, run_underlying' hu, goInt])
  simp only [vop] at h
  split at h
  · rename_i hx1
    refine sem_pure _ h fun a w β I F hm he => ?_
    have h1 := ev_rel he x
    rw [hx1] at h1
    simp only [Rel, DRel] at h1
    exact ⟨_, fun w' _ => run h1, by simp [Rel, DRel]⟩
  · rename_i hx1
    refine sem_pure _ h fun a w β I F hm he => ?_
    have h1 := ev_rel he x
    rw [hx1] at h1
    simp only [Rel, DRel] at h1
    obtain ⟨b, h1⟩ := h1
    exact ⟨_, fun w' _ => run h1, by simp [Rel, DRel]⟩
  · rename_i n sz at_ hx1
    refine sem_pure' fun a w β I F hm he => ?_
    have h1 := ev_rel he x
    rw [hx1] at h1
    simp only [Rel, DRel] at h1
    obtain ⟨b, cap, h1, hn, _, _⟩ := h1
    exact ⟨_, _, fun w' _ => run h1, by simp [Rel, DRel, std], h hn⟩
  · rename_i hh hx1
    split at h
    · rename_i n sz at_ hch
      refine sem_pure' fun a w β I F hm he => ?_
      have h1 := ev_rel he x
      rw [hx1] at h1
      simp only [Rel] at h1
      have hcs := lget_chunk hm hch
      simp only [CSat] at hcs
      obtain ⟨hl, hn, _⟩ := hcs
      exact ⟨_, _, fun w' _ => run h1.2, by simp [Rel, DRel, std, hl], h hn⟩
    · exact stuck_ok rfl hc h
  · rename_i hh lo n c sz hx1
    refine sem_pure' fun a w β I F hm he => ?_
    have h1 := ev_rel he x
    rw [hx1] at h1
    simp only [Rel] at h1
    obtain ⟨_, hn, b, cap, h1, _⟩ := h1
    exact ⟨_, _, fun w' _ => run h1, by simp [Rel, DRel, std], h hn⟩
  · exact stuck_ok rfl hc h

theorem run_eqn {P : Program} {ρ : Operand → Value} {o : Oper} {t t' : TypeId} {x y : Operand} {w : World} {b : Bool} {neg : Bool} (ho : o.op = .binOp (if neg then .neq else .eql) t x y t')
    (hg : (eqGuard (if neg then .neq else .eql) t x y (ρ x) (ρ y)).run P w = .ok () w)
    (hb : (binOp (if neg then .neq else .eql) t (ρ x) (ρ y)).run P w = .ok (.bool (vnot std neg b)) w) : (execOp ρ o).run P w = .ok (.value (.bool (vnot std neg b))) w := by
  simp only [execOp, ho]
  refine run_v ?_
  simp [hg, hb]

/-- What '==' and '!=' come to, at values that are compared by 'Op.equal'. -/
def EqR (P : Program) (t : TypeId) (x y : Operand) (vx vy : Value) (b : Bool) : Prop :=
  ∀ (neg : Bool) (w : World), (eqGuard (if neg then .neq else .eql) t x y vx vy).run P w = .ok () w ∧ (binOp (if neg then .neq else .eql) t vx vy).run P w = .ok (.bool (vnot std neg b)) w

theorem EqR.of {P : Program} {t : TypeId} {x y : Operand} {vx vy : Value} {b : Bool} (hg : ∀ op w, (eqGuard op t x y vx vy).run P w = .ok () w)
    (h1 : binOp .eql t vx vy = (do pure (.bool (← Op.equal t vx vy)))) (h2 : binOp .neq t vx vy = (do pure (.bool (!(← Op.equal t vx vy)))))
    (he : ∀ w, (Op.equal t vx vy).run P w = .ok b w) : EqR P t x y vx vy b := by
  intro neg w
  refine ⟨hg _ _, ?_⟩
  cases neg
  · simp [h1, he, vnot]
  · simp [h2, he, vnot, std]

theorem eqn_bool {P : Program} {t : TypeId} {w : World} (hu : P.underlying t = some .bool) (a b : Bool) (d : Nat) : (Op.equalIn (d + 1) t (.bool a) (.bool b)).run P w = .ok (a == b) w := by
  simp [Op.equalIn, run_underlying' hu]

theorem eqn_ptr {P : Program} {t e : TypeId} {w : World} (hu : P.underlying t = some (.pointer e)) (a : Option Addr) (d : Nat) : (Op.equalIn (d + 1) t (.pointer a) (.pointer none)).run P w = .ok a.isNone w := by
  cases a <;> simp [Op.equalIn, run_underlying' hu]

theorem eqn_ptr' {P : Program} {t e : TypeId} {w : World} (hu : P.underlying t = some (.pointer e)) (a : Option Addr) (d : Nat) : (Op.equalIn (d + 1) t (.pointer none) (.pointer a)).run P w = .ok a.isNone w := by
  cases a <;> simp [Op.equalIn, run_underlying' hu]

theorem eqn_slc {P : Program} {t e : TypeId} {w : World} (hu : P.underlying t = some (.slice e)) (a : Option Addr) (n k d : Nat) : (Op.equalIn (d + 1) t (.slice a n k) (.slice none 0 0)).run P w = .ok a.isNone w := by
  cases a <;> simp [Op.equalIn, run_underlying' hu]

theorem eqn_slc' {P : Program} {t e : TypeId} {w : World} (hu : P.underlying t = some (.slice e)) (a : Option Addr) (n k d : Nat) : (Op.equalIn (d + 1) t (.slice none 0 0) (.slice a n k)).run P w = .ok a.isNone w := by
  cases a <;> simp [Op.equalIn, run_underlying' hu]

theorem eqn_fn {P : Program} {t : TypeId} {e1 e2 e3} {w : World} (hu : P.underlying t = some (.func e1 e2 e3)) (f : Fn) (a b : Array Value) (d : Nat) :
    (Op.equalIn (d + 1) t .nilFunc .nilFunc).run P w = .ok true w ∧ (Op.equalIn (d + 1) t (.func f a b) .nilFunc).run P w = .ok false w ∧ (Op.equalIn (d + 1) t .nilFunc (.func f a b)).run P w = .ok false w := by
  simp [Op.equalIn, run_underlying' hu]

theorem eqn_ifc {P : Program} {t u : TypeId} {m} {v : Value} {w : World} (hu : P.underlying t = some (.interface m)) (d : Nat) :
    (Op.equalIn (d + 1) t (.iface u v) .nilIface).run P w = .ok false w ∧ (Op.equalIn (d + 1) t .nilIface (.iface u v)).run P w = .ok false w := by
  simp [Op.equalIn, run_underlying' hu]

theorem eqn_ifc0 {P : Program} {t : TypeId} {m} {w : World} (hu : P.underlying t = some (.interface m)) (d : Nat) : (Op.equalIn (d + 1) t .nilIface .nilIface).run P w = .ok true w := by
  simp [Op.equalIn, run_underlying' hu]

theorem equal_run {P : Program} {t : TypeId} {vx vy : Value} {w : World} {b : Bool} (h : (Op.equalIn (9999 + 1) t vx vy).run P w = .ok b w) : (Op.equal t vx vy).run P w = .ok b w := h

theorem ekT_spec {P : Program} {t : TypeId} {k : EK} (h : ekT P t = some k) : ∃ d, P.underlying t = some d ∧ (match k with
    | .bool => d = .bool
    | .ptr => ∃ e, d = .pointer e
    | .slc => ∃ e, d = .slice e
    | .fn => ∃ a b c, d = .func a b c
    | .ifc => ∃ m, d = .interface m) := by
  unfold ekT at h
  split at h <;> simp at h <;> subst h <;> rename_i hu <;> exact ⟨_, hu, by simp⟩

theorem veqn_ok {P : Program} {t : TypeId} {x y : Operand} {k : EK} (hk : ekT P t = some k) {β : Nat → HI} {I : Nat → Prop} {w : World} {F : Nat → Nat → Prop} {s : St O}
    (hm : MSat β I w F s.mem) {sx sy : SV} {vx vy : Value} {lit : Bool} (hlit : lit = true → (∃ v, x = .const v) ∨ ∃ v, y = .const v) (hx : Rel β s.mem.length I w sx vx) (hy : Rel β s.mem.length I w sy vy) :
    (∀ b, veqn k (vecLen s sx + vecLen s sy) lit sx sy = .known b → EqR P t x y vx vy b) ∧
    (∀ a b, veqn k (vecLen s sx + vecLen s sy) lit sx sy = .bools a b → EqR P t x y vx vy (a == b)) ∧
    (∀ p, veqn k (vecLen s sx + vecLen s sy) lit sx sy = .some p → hasVec s sx = true → hasVec s sy = true → ∃ b, p b ∧ EqR P t x y vx vy b) := by
  obtain ⟨d, hu, hd⟩ := ekT_spec hk
  have hvec : ∀ {h : Nat}, hasVec s (.vec h) = true → 0 < vecLen s (.vec h) → (β h).nil = false := by
    intro h hh h0
    simp only [hasVec, vecLen] at hh h0
    split at hh
    · rename_i n sz at_ hch
      rw [hch] at h0
      have hcs := lget_chunk hm hch
      simp only [CSat] at hcs
      obtain ⟨hl, hn, hcap, hnil, _⟩ := hcs
      cases hb : (β h).nil
      · rfl
      · have := hnil hb
        simp only at h0
        omega
    · cases hh
  cases k with
  | bool =>
    subst hd
    refine ⟨fun b hb => ?_, fun a b hb => ?_, fun p hb => ?_⟩
    · simp only [veqn] at hb; split at hb <;> cases hb
    · simp only [veqn] at hb
      split at hb
      · simp only [EQ.bools.injEq] at hb
        obtain ⟨rfl, rfl⟩ := hb
        simp only [Rel, DRel] at hx hy
        subst hx; subst hy
        exact EqR.of (fun op w => by simp [eqGuard]) rfl rfl (fun w => equal_run (eqn_bool hu _ _ _))
      · cases hb
    · simp only [veqn] at hb; split at hb <;> cases hb
  | ptr =>
    obtain ⟨e, rfl⟩ := hd
    refine ⟨fun b hb => ?_, fun a b hb => ?_, fun p hb => ?_⟩
    · simp only [veqn] at hb
      split at hb <;> simp only [EQ.known.injEq, reduceCtorEq] at hb <;> subst hb <;> simp only [Rel, DRel] at hx hy
      · subst hx; subst hy
        exact EqR.of (fun op w => by simp [eqGuard]) rfl rfl (fun w => equal_run (eqn_ptr hu none _))
      · rw [hx.2, hy]
        exact EqR.of (fun op w => by simp [eqGuard]) rfl rfl (fun w => equal_run (eqn_ptr hu (some _) _))
      · rw [hx.2, hy]
        exact EqR.of (fun op w => by simp [eqGuard]) rfl rfl (fun w => equal_run (eqn_ptr hu (some _) _))
      · obtain ⟨_, b, p, cs, T, fz, rfl, _⟩ := hx
        rw [hy]
        exact EqR.of (fun op w => by simp [eqGuard]) rfl rfl (fun w => equal_run (eqn_ptr hu (some _) _))
      · rw [hy.2, hx]
        exact EqR.of (fun op w => by simp [eqGuard]) rfl rfl (fun w => equal_run (eqn_ptr' hu (some _) _))
      · rw [hy.2, hx]
        exact EqR.of (fun op w => by simp [eqGuard]) rfl rfl (fun w => equal_run (eqn_ptr' hu (some _) _))
      · obtain ⟨_, b, p, cs, T, fz, rfl, _⟩ := hy
        rw [hx]
        exact EqR.of (fun op w => by simp [eqGuard]) rfl rfl (fun w => equal_run (eqn_ptr' hu (some _) _))
    · simp only [veqn] at hb; split at hb <;> cases hb
    · simp only [veqn] at hb; split at hb <;> cases hb
  | fn =>
    obtain ⟨e1, e2, e3, rfl⟩ := hd
    refine ⟨fun b hb => ?_, fun a b hb => ?_, fun p hb => ?_⟩
    · simp only [veqn] at hb
      split at hb <;> simp only [EQ.known.injEq, reduceCtorEq] at hb <;> subst hb <;> simp only [Rel, DRel] at hx hy
      · subst hx; subst hy
        exact EqR.of (fun op w => by simp [eqGuard]) rfl rfl (fun w => equal_run (eqn_fn hu (.func 0) #[] #[] _).1)
      · obtain ⟨cs, rfl, _⟩ := hx
        rw [hy]
        exact EqR.of (fun op w => by simp [eqGuard]) rfl rfl (fun w => equal_run (eqn_fn hu _ _ _ _).2.1)
      · obtain ⟨cs, rfl, _⟩ := hy
        rw [hx]
        exact EqR.of (fun op w => by simp [eqGuard]) rfl rfl (fun w => equal_run (eqn_fn hu _ _ _ _).2.2)
      · obtain ⟨cs, rfl, _⟩ := hx
        rw [hy]
        exact EqR.of (fun op w => by simp [eqGuard]) rfl rfl (fun w => equal_run (eqn_fn hu _ _ _ _).2.1)
      · obtain ⟨cs, rfl, _⟩ := hy
        rw [hx]
        exact EqR.of (fun op w => by simp [eqGuard]) rfl rfl (fun w => equal_run (eqn_fn hu _ _ _ _).2.2)
    · simp only [veqn] at hb; split at hb <;> cases hb
    · simp only [veqn] at hb; split at hb <;> cases hb
  | ifc =>
    obtain ⟨e1, rfl⟩ := hd
    refine ⟨fun b hb => ?_, fun a b hb => ?_, fun p hb => ?_⟩
    · simp only [veqn] at hb
      split at hb
      · simp only [EQ.known.injEq] at hb
        subst hb
        simp only [Rel, DRel] at hx hy
        obtain ⟨cs, rfl, _⟩ := hx
        rw [hy]
        exact EqR.of (fun op w => by simp [eqGuard]) rfl rfl (fun w => equal_run (eqn_ifc hu _).1)
      · simp only [EQ.known.injEq] at hb
        subst hb
        simp only [Rel, DRel] at hx hy
        obtain ⟨cs, rfl, _⟩ := hy
        rw [hx]
        exact EqR.of (fun op w => by simp [eqGuard]) rfl rfl (fun w => equal_run (eqn_ifc hu _).2)
      · split at hb
        · simp only [EQ.known.injEq] at hb
          subst hb
          simp only [Rel, DRel] at hx hy
          subst hx; subst hy
          refine EqR.of (fun op w => ?_) rfl rfl (fun w => equal_run (eqn_ifc0 hu _))
          rcases hlit rfl with ⟨v, rfl⟩ | ⟨v, rfl⟩ <;> simp [eqGuard]
        · cases hb
      · cases hb
    · cases lit <;> (simp only [veqn] at hb; split at hb <;> cases hb)
    · cases lit <;> (simp only [veqn] at hb; split at hb <;> cases hb)
  | slc =>
    obtain ⟨e, rfl⟩ := hd
    have e1 : ∀ (b : Option Addr) (n k : Nat), EqR P t x y (.slice b n k) (.slice none 0 0) b.isNone := fun b n k =>
      EqR.of (fun op w => by simp [eqGuard]) rfl rfl (fun w => equal_run (eqn_slc hu _ _ _ _))
    have e2 : ∀ (b : Option Addr) (n k : Nat), EqR P t x y (.slice none 0 0) (.slice b n k) b.isNone := fun b n k =>
      EqR.of (fun op w => by simp [eqGuard]) rfl rfl (fun w => equal_run (eqn_slc' hu _ _ _ _))
    refine ⟨fun b hb => ?_, fun a b hb => ?_, fun p hb h1 h2 => ?_⟩
    · simp only [veqn] at hb
      split at hb <;> simp only [EQ.known.injEq, reduceCtorEq] at hb
      subst hb
      simp only [Rel, DRel] at hx hy
      subst hx; subst hy
      exact e1 none 0 0
    · simp only [veqn] at hb; split at hb <;> cases hb
    · simp only [veqn] at hb
      split at hb <;> simp only [EQ.some.injEq, reduceCtorEq] at hb <;> subst hb
      · simp only [Rel, DRel] at hx hy
        obtain ⟨a, rfl⟩ := hx; subst hy
        exact ⟨_, trivial, e1 _ _ _⟩
      · simp only [Rel, DRel] at hx hy
        obtain ⟨a, rfl⟩ := hy; subst hx
        exact ⟨_, trivial, e2 _ _ _⟩
      · simp only [Rel, DRel] at hx hy
        obtain ⟨a, cap, rfl, hn, _, hx⟩ := hx; subst hy
        refine ⟨_, fun h0 => ?_, e1 _ _ _⟩
        obtain ⟨b, o, cs, T, fz, rfl, _⟩ := hx h0
        rfl
      · simp only [Rel, DRel] at hx hy
        obtain ⟨a, cap, rfl, hn, _, hy⟩ := hy; subst hx
        refine ⟨_, fun h0 => ?_, e2 _ _ _⟩
        obtain ⟨b, o, cs, T, fz, rfl, _⟩ := hy h0
        rfl
      · simp only [Rel, DRel] at hx hy
        rw [hx.2]; subst hy
        refine ⟨_, fun h0 => ?_, e1 _ _ _⟩
        rw [HI.adr_isNone]
        exact hvec h1 (by simpa [vecLen] using h0)
      · simp only [Rel, DRel] at hx hy
        rw [hy.2]; subst hx
        refine ⟨_, fun h0 => ?_, e2 _ _ _⟩
        rw [HI.adr_isNone]
        exact hvec h2 (by simpa [vecLen] using h0)
      · simp only [Rel, DRel] at hx hy
        obtain ⟨_, _, a, k, rfl, hnk, _, _, _, ha⟩ := hx; subst hy
        refine ⟨_, fun h0 => ?_, e1 _ _ _⟩
        simp only [vecLen] at h0
        obtain ⟨_, rfl⟩ := ha (by omega)
        rfl
      · simp only [Rel, DRel] at hx hy
        obtain ⟨_, _, a, k, rfl, hnk, _, _, _, ha⟩ := hy; subst hx
        refine ⟨_, fun h0 => ?_, e2 _ _ _⟩
        simp only [vecLen] at h0
        obtain ⟨_, rfl⟩ := ha (by omega)
        rfl

theorem isLitNil_ok {x y : Operand} (h : (isLitNil (cX x) || isLitNil (cX y)) = true) : (∃ v, x = .const v) ∨ ∃ v, y = .const v := by
  rw [Bool.or_eq_true] at h
  refine h.imp (fun h => ?_) fun h => ?_
  · cases x with
    | const v => exact ⟨v, rfl⟩
    | _ => simp [cX, isLitNil] at h
  · cases y with
    | const v => exact ⟨v, rfl⟩
    | _ => simp [cX, isLitNil] at h

theorem ok_eqn {P : Program} {o : Oper} {s : St O} {K : St O → Prop} {t t' : TypeId} {x y : Operand} {k : EK} {neg : Bool} (ho : o.op = .binOp (if neg then .neq else .eql) t x y t')
    (hk : ekT P t = some k) (hc : compOp P o.op = .eqn k neg (cX x) (cX y)) (h : vop std P o.dst (.eqn k neg (cX x) (cX y)) s K) : SemY P o s K [] := by
  simp only [vop] at h
  split at h
  · rename_i b hb
    refine sem_pure _ h fun a w β I F hm he => ?_
    obtain ⟨h1, _, _⟩ := veqn_ok (x := x) (y := y) hk hm isLitNil_ok (ev_rel he x) (ev_rel he y)
    have hE := h1 b hb neg
    refine ⟨_, fun w' _ => run_eqn ho (hE w').1 (hE w').2, ?_⟩
    cases neg <;> cases b <;> simp [Rel, DRel, vnot, std]
  · rename_i b c hb
    refine sem_pure _ h fun a w β I F hm he => ?_
    obtain ⟨_, h1, _⟩ := veqn_ok (x := x) (y := y) hk hm isLitNil_ok (ev_rel he x) (ev_rel he y)
    have hE := h1 b c hb neg
    exact ⟨_, fun w' _ => run_eqn ho (hE w').1 (hE w').2, by simp [Rel, DRel, std]⟩
  · rename_i p hb
    split at h
    · rename_i hh
      simp only [Bool.and_eq_true] at hh
      refine sem_pure' fun a w β I F hm he => ?_
      obtain ⟨_, _, h1⟩ := veqn_ok (x := x) (y := y) hk hm isLitNil_ok (ev_rel he x) (ev_rel he y)
      obtain ⟨b, hp, hE⟩ := h1 p hb hh.1 hh.2
      have hE := hE neg
      exact ⟨_, _, fun w' _ => run_eqn ho (hE w').1 (hE w').2, by simp [Rel, DRel], h b hp⟩
    · exact stuck_ok rfl hc h
  · exact stuck_ok rfl hc h

end Go.V
