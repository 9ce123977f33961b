/-
  Code in short form, and what is to be shown of it. Regions whose order is open: what reads is taken first, what writes in every order.
-/
import Derived.Test.YtiaceoomiflgcaaVcgN
import Derived.OrdersHeld
namespace Go.V
variable {O : Type} [Objs O]

inductive Ex where
  | normal
  | exit (id : Nat)
  | goto (l : Nat)
  | ret

/-- The order in which a region's operations are looked at: 'take': first of all; 'alt': one of those that may come up, 'more': the others. -/
inductive DT where
  | done
  | take (i : Nat) (o : Op1) (rest : DT)
  | alt (i : Nat) (aft : List Nat) (o : Op1) (rest more : DT)
  | none
  | bad

inductive IC where
  | skip
  | reg (l : List Op1)
  | drw (t : DT)
  | seq (a b : IC)
  | cond (c : X) (a b : IC)
  | block (id : Nat) (b : IC)
  | loop (b : IC)
  | exit (id : Nat)
  | ret
  | label (l : Nat)
  | goto (l : Nat)
  | scope (b : IC)
  | cut (b : IC)
  | bad

/-- Without the cuts. -/
def strip : IC → IC
  | .seq a b => .seq (strip a) (strip b)
  | .cond c a b => .cond c (strip a) (strip b)
  | .block id b => .block id (strip b)
  | .loop b => .loop (strip b)
  | .scope b => .scope (strip b)
  | .cut b => strip b
  | c => c

def comp1 (P : Program) (ops : Array Oper) (o : Oper) : Op1 :=
  { d := o.dst, i := compOp P o.op, g := match o.guard with
    | none => none
    | some (j, b) => some ((ops[j]?).bind (·.dst), b) }

def aftOf (o : Oper) : List Nat := (o.after.toList.filter (Region.binds .any ·)).map (·.on)

def depsOf (ops : Array Oper) (x : Nat) : List Nat :=
  match ops[x]? with
  | some o => aftOf o
  | none => []

def memN (n : Nat) : List Nat → Bool
  | [] => false
  | x :: l => (match Nat.beq n x with | true => true | false => memN n l)

/-- What is waited for, by whatever is waited for, too. -/
def anc (ops : Array Oper) : Nat → List Nat → List Nat → List Nat
  | 0, _, dn => dn
  | _ + 1, [], dn => dn
  | f + 1, x :: todo, dn => (match memN x dn with
    | true => anc ops f todo dn
    | false => anc ops f (depsOf ops x ++ todo) (x :: dn))

def aftT (ops : Array Oper) (o : Oper) : List Nat := anc ops (32 * ops.size + 32) (aftOf o) []

def earlyAt (P : Program) (ops : Array Oper) (i : Nat) : Bool :=
  match ops[i]? with
  | some o => early (compOp P o.op)
  | none => false

def altsD (P : Program) (ops : Array Oper) (f : Nat → DT) : List Nat → DT
  | [] => .none
  | i :: l => (match ops[i]? with
    | some o => .alt i (aftT ops o) (comp1 P ops o) (f i) (altsD P ops f l)
    | none => .bad)

def planD (P : Program) (ops : Array Oper) : Nat → Array Bool → DT
  | 0, listed => (match Region.ready .any ops listed with | [] => .done | _ => .bad)
  | fuel + 1, listed => (match Region.ready .any ops listed with
    | [] => .done
    | r :: rs => (match (r :: rs).find? (fun i => earlyAt P ops i && Region.free .any ops listed i) with
      | some i => (match ops[i]? with
        | some o => .take i (comp1 P ops o) (planD P ops fuel (listed.setIfInBounds i true))
        | none => .bad)
      | none => altsD P ops (fun i => planD P ops fuel (listed.setIfInBounds i true)) (r :: rs)))

def compC (P : Program) : Code → IC
  | .skip => .skip
  | .region _ ops false => .reg (ops.toList.map (comp1 P ops))
  | .region _ ops true => (match Region.noSelect ops with
    | true => .drw (planD P ops ops.size (Array.replicate ops.size false))
    | false => .bad)
  | .seq a b => .seq (compC P a) (compC P b)
  | .cond c a b => .cond (cX c) (compC P a) (compC P b)
  | .block id c => .block id (compC P c)
  | .loop c => .loop (compC P c)
  | .exit id => .exit id
  | .ret => .ret
  | .label l => .label l
  | .goto l => .goto l
  | .scope c => .scope (compC P c)
  | _ => .bad

/-! ### What is to be shown -/

/-- An operation that is carried out only if a temporary of the region is a certain bool. -/
def vG (g : Option (Option Nat × Bool)) (s : St O) (run skip : St O → Prop) : Prop :=
  match g with
  | none => run s
  | some (some d, b) => (match lget s.env d with
    | some (.dv (.bool t)) => bc t (fun _ => (match b with | true => run (s.put (some d) (.dv (.bool true))) | false => skip (s.put (some d) (.dv (.bool true)))))
        (fun _ => (match b with | true => skip (s.put (some d) (.dv (.bool false))) | false => run (s.put (some d) (.dv (.bool false)))))
    | some (.tup _) => skip s
    | _ => False)
  | some (none, _) => False

def vL (A : Ar) (P : Program) : List Op1 → St O → (St O → Prop) → Prop
  | [], s, K => K s
  | o :: r, s, K => vG o.g s (fun s => vop A P o.d o.i s fun s' => vL A P r s' K) (fun s => vL A P r (s.put o.d (.tup [])) K)

mutual
/-- A value by which what it stands for is told altogether. -/
def det : SV → Bool
  | .dv (.seq _ _ _) | .dv .emp | .junk | .win _ _ _ _ _ | .pseq _ _ _ _ _ => false
  | .agg l | .tup l | .fn _ l | .bfn _ l => dets l
  | .mfn _ v | .ifc _ v => det v
  | _ => true
def dets : List SV → Bool
  | [] => true
  | v :: r => det v && dets r
end

/-- What was read early: behind which handle, by which pointer, how many cells, and what was there. -/
structure Rd where
  h : Nat
  p : SV
  n : Option Nat
  sv : SV

/-- What stands in a chunk where a pointer points. -/
def ldC : Chunk O → SV → Option Nat → Option SV
  | .blk ss, .ptr _ o, none => segGet ss o
  | .blk ss, .ptr _ o, some m => (match segTake ss o m with | some l => some (.agg l) | none => none)
  | _, _, _ => none

/-- Does it serve to look again? -/
def Rd.open (r : Rd) : Bool := (match r.p with | .ptr _ _ => true | _ => false) && det r.sv

def rdOf (s : St O) : Ins → List Rd
  | .ld n x => (match s.ev x with
    | .ptr h o => [⟨h, .ptr h o, n, (match lget s.mem h with | some c => (match ldC c (.ptr h o) n with | some v => v | none => .junk) | none => .junk)⟩]
    | .pat h _ _ _ _ _ => [⟨h, .junk, n, .junk⟩]
    | _ => [])
  | _ => []

/-- The handles that were read by operations that are not waited for, and at which it does not serve to look again. -/
def heldOf (aft : List Nat) : List (Nat × Rd) → List Nat
  | [] => []
  | (k, r) :: R => (match memN k aft || (r.open || memN r.h (heldOf aft R)) with | true => heldOf aft R | false => r.h :: heldOf aft R)

def keepR (aft : List Nat) : List (Nat × Rd) → List (Nat × Rd)
  | [] => []
  | (k, r) :: R => (match memN k aft with | true => keepR aft R | false => (k, r) :: keepR aft R)

def addR (i : Nat) : List Rd → List (Nat × Rd) → List (Nat × Rd)
  | [], R => R
  | r :: l, R => (i, r) :: addR i l R

/-- Where it serves to look again: what was there is there. -/
def againR (aft : List Nat) (mem : List (Chunk O)) : List (Nat × Rd) → Prop
  | [] => True
  | (k, r) :: R => (match memN k aft || !r.open with
    | true => againR aft mem R
    | false => (match lget mem r.h with | some c => ldC c r.p r.n = some r.sv | none => False) ∧ againR aft mem R)

/-- With nothing to look at again, no more is asked. -/
def noneR (aft : List Nat) : List (Nat × Rd) → Bool
  | [] => true
  | (k, r) :: R => (memN k aft || !r.open) && noneR aft R

def chkR (aft : List Nat) (mem : List (Chunk O)) (R : List (Nat × Rd)) (q : Unit → Prop) : Prop :=
  match noneR aft R with
  | true => q ()
  | false => Chk (againR aft mem R) q

def maskM : List Nat → List (Chunk O) → List (Chunk O)
  | [], m => m
  | h :: hs, m => lset (maskM hs m) h .gone

def unmaskM (m : List (Chunk O)) : List Nat → List (Chunk O) → Option (List (Chunk O))
  | [], m' => some m'
  | h :: hs, m' => (match lget m' h, lget m h with
    | some .gone, some c => unmaskM m hs (lset m' h c)
    | _, _ => none)

/-- Both; where there is no other one: the one. -/
def andN : DT → Prop → Prop → Prop
  | .none, p, _ => p
  | _, p, q => p ∧ q

def vT (A : Ar) (P : Program) : DT → List (Nat × Rd) → St O → (St O → Prop) → Prop
  | .done, _, s, K => K s
  | .take i o rest, R, s, K => vG o.g s (fun s => vop A P o.d o.i s fun s' => vT A P rest (addR i (rdOf s o.i) R) s' K) (fun s => vT A P rest R (s.put o.d (.tup [])) K)
  | .alt _ aft o rest more, R, s, K =>
    andN more (vG o.g s (fun s => vop A P o.d o.i ⟨s.env, maskM (heldOf aft R) s.mem⟩ fun s' => (match unmaskM s.mem (heldOf aft R) s'.mem with
      | some m => chkR aft m R fun _ => vT A P rest (keepR aft R) ⟨s'.env, m⟩ K
      | none => False)) (fun s => vT A P rest (keepR aft R) (s.put o.d (.tup [])) K))
    (vT A P more R s K)
  | .none, _, _, _ => True
  | .bad, _, _, _ => False

def Ex.toExit : Ex → Exit
  | .normal => .normal
  | .exit i => .exit i
  | .goto l => .goto l
  | .ret => .ret

/-- At the code's end: one of the states that are asked, in its way of leaving. -/
def Post (fr : Fr) (K : Ex → St O → Prop) : Exit → Act → World → Prop := fun e a w => ∃ (ex : Ex) (s : St O), e = ex.toExit ∧ K ex s ∧ Sat fr s a w

/-- From any world in which a state holds (and of whose handles n were there at the start), the code comes to an end, in a state that is as is asked. -/
def SemC (P : Program) (n : Nat) (c : Code) (s : St O) (K : Ex → St O → Prop) : Prop :=
  ∀ (fr : Fr) (a : Act) (w : World), fr.n = n → Sat fr s a w → c.wp P (Post fr K) a w

structure LoopVC (P : Program) (n : Nat) (b : IC) (s : St O) (K : Ex → St O → Prop) : Prop where
  h : ∀ c : Code, compC P c = strip b → SemC P n (.loop c) s K

structure ScopeVC (P : Program) (n : Nat) (b : IC) (s : St O) (K : Ex → St O → Prop) : Prop where
  h : ∀ c : Code, compC P c = strip b → SemC P n (.scope c) s K

/-- Where a walk goes on from a state that says less. -/
structure CutVC (P : Program) (n : Nat) (b : IC) (s : St O) (K : Ex → St O → Prop) : Prop where
  h : ∀ c : Code, compC P c = strip b → SemC P n c s K

def vC (A : Ar) (P : Program) (n : Nat) : IC → St O → (Ex → St O → Prop) → Prop
  | .skip, s, K => K .normal s
  | .reg l, s, K => vL A P l s (K .normal)
  | .drw t, s, K => vT A P t [] s (K .normal)
  | .seq a b, s, K => vC A P n a s fun e s' => (match e with
    | .normal => vC A P n b s' K
    | .exit i => K (.exit i) s'
    | .goto l => K (.goto l) s'
    | .ret => K .ret s')
  | .cond c a b, s, K => (match s.ev c with
    | .dv (.bool t) => bc t (fun _ => vC A P n a s K) (fun _ => vC A P n b s K)
    | _ => False)
  | .block id c, s, K => vC A P n c s fun e s' => (match e with
    | .normal => K .normal s'
    | .exit i => (match Nat.beq i id with | true => K .normal s' | false => K (.exit i) s')
    | .goto l => K (.goto l) s'
    | .ret => K .ret s')
  | .loop c, s, K => LoopVC P n c s K
  | .exit id, s, K => K (.exit id) s
  | .ret, s, K => K .ret s
  | .label _, s, K => K .normal s
  | .goto l, s, K => K (.goto l) s
  | .scope c, s, K => ScopeVC P n c s K
  | .cut c, s, K => CutVC P n c s K
  | .bad, _, _ => False

/-! ### Soundness of regions in text order -/

omit [Objs O] in
theorem env_lit {β : Nat → HI} {N : Nat} {I : Nat → Prop} {w : World} {s : St O} {a : Act} {d : Nat} {t u : Bool} (ht : t = u) (hg : lget s.env d = some (.dv (.bool t)))
    (he : RelL β N I w s.env a.tmps.toList) : RelL β N I w (s.put (some d) (.dv (.bool u))).env a.tmps.toList ∧ a.tmps[d]? = some (.bool u) := by
  subst ht
  obtain ⟨x, hx, hr⟩ := he.get hg
  simp only [Rel, DRel] at hr
  subst hr
  refine ⟨?_, by simpa using hx⟩
  have := RelL.set (i := d) he (v := .dv (.bool t)) (x := .bool t) (by simp [Rel, DRel])
  have h2 : a.tmps.toList.set d (.bool t) = a.tmps.toList := by
    apply List.ext_getElem?
    intro k
    rw [List.getElem?_set]
    split
    · rename_i hk
      subst hk
      have hlt : d < a.tmps.toList.length := by
        rcases Nat.lt_or_ge d a.tmps.toList.length with h | h
        · exact h
        · rw [List.getElem?_eq_none h] at hx; cases hx
      rw [if_pos hlt]; exact hx.symm
    · rfl
  rw [h2] at this
  exact this

/-- Whether an operation is wanted, told by the state. -/
theorem vG_ok {Q : Type} {P : Program} {ops : Array Oper} {o : Oper} {s : St Q} {run skip : St Q → Prop} (h : vG (comp1 P ops o).g s run skip) {β : Nat → HI} {N : Nat} {I : Nat → Prop} {w : World} {a : Act}
    (he : RelL β N I w s.env a.tmps.toList) : ∃ s', s'.mem = s.mem ∧ RelL β N I w s'.env a.tmps.toList ∧
      ((Region.wanted o (yielded ops a.tmps) = true ∧ run s') ∨ (Region.wanted o (yielded ops a.tmps) = false ∧ skip s')) := by
  unfold comp1 at h
  cases hg : o.guard with
  | none =>
    simp only [hg, vG] at h
    exact ⟨s, rfl, he, .inl ⟨by simp [Region.wanted, hg], h⟩⟩
  | some jb =>
    obtain ⟨j, b⟩ := jb
    simp only [hg] at h
    cases hd : (ops[j]?).bind (·.dst) with
    | none => rw [hd] at h; exact h.elim
    | some d =>
      rw [hd] at h
      simp only [vG] at h
      split at h
      · rename_i t ht
        cases t with
        | true =>
          obtain ⟨he', hx⟩ := env_lit (u := true) rfl ht he
          refine ⟨s.put (some d) (.dv (.bool true)), rfl, he', ?_⟩
          simp only [bc] at h
          have hy : yielded ops a.tmps j = some true := by simp [yielded, hd, hx]
          cases b with
          | true => exact .inl ⟨by simp [Region.wanted, hg, hy], h⟩
          | false => exact .inr ⟨by simp [Region.wanted, hg, hy], h⟩
        | false =>
          obtain ⟨he', hx⟩ := env_lit (u := false) rfl ht he
          refine ⟨s.put (some d) (.dv (.bool false)), rfl, he', ?_⟩
          simp only [bc] at h
          have hy : yielded ops a.tmps j = some false := by simp [yielded, hd, hx]
          cases b with
          | true => exact .inr ⟨by simp [Region.wanted, hg, hy], h⟩
          | false => exact .inl ⟨by simp [Region.wanted, hg, hy], h⟩
      · rename_i l ht
        obtain ⟨x, hx, hr⟩ := he.get ht
        simp only [Rel] at hr
        obtain ⟨cs, rfl, _⟩ := hr
        have hx' : a.tmps[d]? = some (.tuple cs.toArray) := by simpa using hx
        have hy : yielded ops a.tmps j = none := by simp [yielded, hd, hx']
        exact ⟨s, rfl, he, .inr ⟨by simp [Region.wanted, hg, hy], h⟩⟩
      · exact h.elim

theorem undef_rel {β : Nat → HI} {N : Nat} {I : Nat → Prop} {w : World} : Rel β N I w (.tup []) undef := by
  simp only [Rel]
  exact ⟨[], rfl, rfl⟩

theorem vL_sound {P : Program} {ops : Array Oper} {fr : Fr} {K : St O → Prop} {Q : Exit → Act → World → Prop} (hQ : ∀ s a w, K s → Sat fr s a w → Q .normal a w) :
    ∀ (l : List Nat), (∀ i ∈ l, i < ops.size) → ∀ (s : St O) (a : Act) (w : World),
      vL std P (l.map fun i => comp1 P ops (ops.getD i default)) s K → Sat fr s a w → wpOps P ops Q l a w
  | [], _, s, a, w, h, hs => hQ s a w h hs
  | i :: l, hl, s, a, w, h, hs => by
    have ih := vL_sound (P := P) hQ l fun j hj => hl j (by simp [hj])
    have hi : i < ops.size := hl i (by simp)
    rw [wpOps_cons]
    obtain ⟨o, ho⟩ : ∃ o, ops[i]? = some o := ⟨ops[i], by simp [hi]⟩
    have hgo : ops.getD i default = o := by simp [Array.getD_eq_getD_getElem?, ho]
    simp only [List.map_cons, vL, hgo] at h
    obtain ⟨hd, β, I, F, hm, he, hw, hb, hn⟩ := hs
    obtain ⟨s', hmem, he', hcase⟩ := vG_ok h he
    have hs' : Sat fr s' a w := ⟨hd, β, I, F, by rw [hmem]; exact hm, by rw [hmem]; exact he', hw, hb, by rw [hmem]; exact hn⟩
    simp only [wpOp, ho]
    rcases hcase with ⟨hwant, h⟩ | ⟨hwant, h⟩
    · rw [if_pos hwant]
      exact .inl ((vop_sound o s' _ h).semO fr a w hs' _ Q fun s2 a2 w2 hK hs2 => ih s2 a2 w2 hK hs2)
    · rw [if_neg (by simp [hwant])]
      refine ih _ _ _ h ?_
      exact mkSat hd (by rw [hmem]; exact hm) (by rw [hmem]; exact he') hw hb (by rw [hmem]; exact hn) undef_rel

theorem vL_region {P : Program} {ops : Array Oper} {id : Nat} {fr : Fr} {K : St O → Prop} {Q : Exit → Act → World → Prop} {s : St O} {a : Act} {w : World}
    (h : vL std P (ops.toList.map (comp1 P ops)) s K) (hs : Sat fr s a w) (hQ : ∀ s a w, K s → Sat fr s a w → Q .normal a w) : (Code.region id ops false).wp P Q a w := by
  refine wp_region (vL_sound (P := P) hQ _ (fun i hi => by simpa using hi) s a w ?_ hs)
  have : (List.range ops.size).map (fun i => comp1 P ops (ops.getD i default)) = ops.toList.map (comp1 P ops) := by
    apply List.ext_getElem?
    intro k
    simp only [List.getElem?_map]
    rcases Nat.lt_or_ge k ops.size with hk | hk
    · simp [hk, Array.getD_eq_getD_getElem?]
    · simp [Nat.not_lt.2 hk]
  rw [this]
  exact h

/-! ### What is asked of the end may be less -/
theorem Stuck.mono {P : Program} {d : Option Nat} {i : Ins} {s : St O} {K K' : St O → Prop} (hk : ∀ s, K s → K' s) (h : Stuck P d i s K) : Stuck P d i s K' := by
  refine ⟨fun o ho hi => ?_⟩
  have := h.h o ho hi
  unfold SemZ at this ⊢
  cases he : early i with
  | true =>
    rw [he] at this
    intro a w β I F hm hr
    obtain ⟨v, sv, h1, h2, h3⟩ := this a w β I F hm hr
    exact ⟨v, sv, h1, h2, hk _ h3⟩
  | false =>
    rw [he] at this
    exact fun fr a w hs next Q hn => this fr a w hs next Q fun s' a' w' h => hn s' a' w' (hk _ h)

theorem CallVC.mono {P : Program} {f : FuncId} {d : Option Nat} {xs : List X} {s : St O} {K K' : St O → Prop} (hk : ∀ s, K s → K' s) (h : CallVC P f d xs s K) : CallVC P f d xs s K' :=
  ⟨h.c, fun fr a w vs hx next hn => h.h fr a w vs hx next fun s' a' w' h => hn s' a' w' (hk _ h)⟩

theorem bc_mono {b : Bool} {p q p' q' : Unit → Prop} (h1 : p () → p' ()) (h2 : q () → q' ()) : bc b p q → bc b p' q' := by
  cases b
  · exact h2
  · exact h1

theorem vbin_mono {A : Ar} {op : BinOp} {k : IntKind} {a b : Int} {K K' : SV → Prop} (hk : ∀ v, K v → K' v) : vbin A op k a b K → vbin A op k a b K' := by
  unfold vbin
  split
  · exact hk _
  · exact fun h => ⟨h.h, hk _ h.k⟩
  · exact fun h => ⟨h.h, hk _ h.k⟩
  · exact hk _

theorem vop_mono {A : Ar} {P : Program} {d : Option Nat} {ins : Ins} {s : St O} {K K' : St O → Prop} (hk : ∀ s, K s → K' s) : vop A P d ins s K → vop A P d ins s K' := by
  cases ins with
  | ld n => cases n <;> simp only [vop] <;> (repeat' split) <;> first | exact hk _ | exact Stuck.mono hk
  | fld off n => cases n <;> simp only [vop] <;> (repeat' split) <;> first | exact hk _ | exact Stuck.mono hk
  | len b => cases b <;> simp only [vop] <;> (repeat' split) <;> first | exact hk _ | exact Stuck.mono hk | exact fun h hn => hk _ (h hn)
  | _ =>
    simp only [vop]
    repeat' split
    all_goals first
      | exact hk _
      | exact Stuck.mono hk
      | exact fun h => ⟨h.h, hk _ h.k⟩
      | exact fun h => ⟨h.h, h.k.h, hk _ h.k.k⟩
      | exact fun h => ⟨h.h, h.k.h, h.k.k.h, hk _ h.k.k.k⟩
      | exact fun h => ⟨h.h, fun k e hlt => hk _ (h.k k e hlt)⟩
      | exact fun h => ⟨h.h, h.k.h, fun k e hlt => hk _ (h.k.k k e hlt)⟩
      | exact CallVC.mono hk
      | exact fun ⟨f, h1, h2⟩ => ⟨⟨f, h1, h2.mono hk⟩⟩
      | exact fun h => ⟨h.ex.imp fun f h => ⟨h.1, h.2.mono hk⟩⟩
      | exact fun h b hb => hk _ (h b hb)
      | exact bc_mono (hk _) (hk _)
      | exact vbin_mono fun _ => hk _

end Go.V
