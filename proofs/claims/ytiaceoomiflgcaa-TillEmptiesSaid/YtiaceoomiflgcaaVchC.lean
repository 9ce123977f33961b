/-
  Walks with the arithmetic under names of its own; calls that are gone through in place; loops from the state at hand.
-/
import Derived.Test.YtiaceoomiflgcaaVcgX
namespace Go.V
variable {O : Type} [Objs O]

theorem natc (n : Nat) : @NatCast.natCast Int instNatCastInt n = (n : Int) := rfl

/-- What is asked of plain truths, in one. -/
theorem shs : (∀ n : Nat, Int.ofNat n = (n : Int)) ∧ (∀ (p : Prop) [Decidable p], (decide p = true) = p) ∧ (∀ (p : Prop) [Decidable p], (decide p = false) = ¬ p) ∧ (∀ n : Nat, (n : Int).toNat = n) ∧
    (∀ b : Bool, ((!b) = true) = (b = false)) ∧ (∀ b : Bool, ((!b) = false) = (b = true)) ∧ ((¬ True) = False) ∧ ((¬ False) = True) ∧ (∀ a b : Int, (¬ a < b) = (b ≤ a)) ∧ (∀ a b : Int, (¬ a ≤ b) = (b < a)) ∧
    (∀ a b : Bool, ((a && b) = true) = (a = true ∧ b = true)) ∧ (∀ a b : Bool, ((a || b) = true) = (a = true ∨ b = true)) ∧ (∀ a b : Nat, ((a : Int) < (b : Int)) = (a < b)) ∧ (∀ a b : Nat, ((a : Int) ≤ (b : Int)) = (a ≤ b)) ∧ (∀ n : Nat, 0 ≤ (n : Int)) ∧
    ((0 : Int).toNat = 0) ∧ ((1 : Int).toNat = 1) ∧ (∀ p : Prop, (¬ ¬ p) = p) ∧ (∀ a : Int, (a == a) = true) ∧ (∀ a : Nat, (a == a) = true) ∧ (∀ p : Prop, (True ∧ p) = p) ∧ (∀ p : Prop, (p ∧ True) = p) := by
  refine ⟨fun _ => rfl, fun p _ => by simp, fun p _ => by simp, fun _ => rfl, fun b => by cases b <;> simp, fun b => by cases b <;> simp, by simp, by simp, fun a b => by simp, fun a b => by simp, fun a b => by simp, fun a b => by simp, fun a b => by simp, fun a b => by simp, fun _ => Int.natCast_nonneg _, rfl, rfl, fun p => by simp, fun a => by simp, fun a => by simp, fun p => by simp, fun p => by simp⟩

/-- A call gone through in place: the callee's code behind the caller's state. -/
theorem call_inl {P P' : Program} (hP : P' = P) (hmx : P.follows .mixedOrders = true) {A : Ar} (hA : A = std) {f : FuncId} {nt : Nat} {ic : IC} {rs : List RV} (hc : codeFn P f = true) (hf : Fn P f nt ic rs) {d : Option Nat} {xs : List X} {s : St O} {K : St O → Prop}
    (h : vC A P' s.mem.length ic ⟨xs.map s.ev ++ junks (nt - xs.length), s.mem⟩ (bodyK rs fun r m => K (St.put ⟨s.env, m⟩ d r))) : CallVC P' f d xs s K := by
  subst hP hA
  refine call_whole rfl hc (fn_rule hmx hf (Q := fun r m => K (St.put ⟨s.env, m⟩ d r)) ?_) rfl fun r m h _ => h
  rw [List.length_map]
  exact h

/-- The result is data: it is told, and the memory of the call's own is let go. -/
theorem leaf_data {n : Nat} {v : SV} {m : List (Chunk O)} {Q : SV → List (Chunk O) → Prop} (h : VLe [] v v) (hn : n = 0) (hq : Q v []) : ∃ r' m', Ent n ⟨[v], m⟩ ⟨[r'], m'⟩ ∧ Q r' m' := by
  subst hn
  exact ⟨v, [], Ent.none_ h, hq⟩

def junkL (l : List SV) : List Nat → List SV
  | [] => l
  | j :: js => lset (junkL l js) j .junk

def putsL (l : List SV) : List (Nat × SV) → List SV
  | [] => l
  | (j, v) :: cs => lset (putsL l cs) j v

/-- A loop that counts, from the state at hand: the numbers of the temporaries that the body sets, and what those that it hands on hold. -/
theorem loop_up {P P' : Program} (hm : P.follows .mixedOrders = true) (hP : P' = P) {A : Ar} (hA : A = std) {n : Nat} {b : IC} {s : St O} {K : Ex → St O → Prop} (N : Nat) (p : Nat → Prop) (js : List Nat) (cs : Nat → List (Nat × SV)) (mem : Nat → List (Chunk O)) (p0 : p 0)
    (h0 : Ent n s ⟨putsL (junkL s.env js) (cs 0), mem 0⟩) (round : ∀ (Nx : St O → Prop) (i : Nat), (∀ s', i < N → p (i + 1) → Ent n s' ⟨putsL (junkL s.env js) (cs (i + 1)), mem (i + 1)⟩ → Nx s') → i ≤ N → p i → vC A P' n b ⟨putsL (junkL s.env js) (cs i), mem i⟩ fun e s' => (match e with
      | .normal => Nx s'
      | .exit l => K (.exit l) s'
      | .goto l => K (.goto l) s'
      | .ret => K .ret s')) : LoopVC P' n b s K :=
  loop_nat hm hP hA N p (fun i => ⟨putsL (junkL s.env js) (cs i), mem i⟩) p0 h0 fun J i hJ hi hp => by
    subst hJ
    exact round (fun s' => i < N ∧ p (i + 1) ∧ Ent n s' ⟨putsL (junkL s.env js) (cs (i + 1)), mem (i + 1)⟩) i (fun s' h1 h2 h3 => ⟨h1, h2, h3⟩) hi hp

/-- A loop by an index of any kind, from the state at hand. -/
theorem loop_by {P P' : Program} (hm : P.follows .mixedOrders = true) (hP : P' = P) {A : Ar} (hA : A = std) {n : Nat} {b : IC} {s : St O} {K : Ex → St O → Prop} {ι : Type} (μ : ι → Nat) (js : List Nat) (cs : ι → List (Nat × SV)) (mem : ι → List (Chunk O)) (i0 : ι)
    (h0 : Ent n s ⟨putsL (junkL s.env js) (cs i0), mem i0⟩) (round : ∀ (Nx : St O → Prop) i, (∀ s' j, μ j < μ i → Ent n s' ⟨putsL (junkL s.env js) (cs j), mem j⟩ → Nx s') → vC A P' n b ⟨putsL (junkL s.env js) (cs i), mem i⟩ fun e s' => (match e with
      | .normal => Nx s'
      | .exit l => K (.exit l) s'
      | .goto l => K (.goto l) s'
      | .ret => K .ret s')) : LoopVC P' n b s K :=
  loop_at hm hP hA (fun i => ⟨putsL (junkL s.env js) (cs i), mem i⟩) μ i0 h0 fun i =>
    round (fun s' => ∃ j, μ j < μ i ∧ Ent n s' ⟨putsL (junkL s.env js) (cs j), mem j⟩) i fun _ j h1 h2 => ⟨j, h1, h2⟩

/-- A walk with every operation of the arithmetic a name of its own, and what each comes to. -/
theorem fn_walkv {P : Program} (hmx : P.follows .mixedOrders = true) {f : FuncId} {nt : Nat} {ic : IC} {rs : List RV} (hf : Fn P f nt ic rs) {args : List SV} {mem mem1 : List (Chunk O)} {Q : SV → List (Chunk O) → Prop}
    (he : Ent mem.length ⟨args, mem⟩ ⟨args, mem1⟩)
    (h : ∀ (bin : BinOp → IntKind → Int → Int → Int) (cmp : BinOp → Int → Int → Bool) (un : UnOp → IntKind → Int → Int) (conv : IntKind → Int → Int) (bnot : Bool → Bool) (beq band : Bool → Bool → Bool) (sel : Bool → Bool → Bool → Bool) (isel : Bool → Int → Int → Int) (ofN : Nat → Int) (toN : Int → Nat) (inb : Int → Nat → Prop) (nz nneg : Int → Prop) (lt le room : Nat → Nat → Prop) (slb : Int → Int → Int → Int → Prop) (add sub : Nat → Nat → Nat) (sbin : ByteArray → ByteArray → ByteArray) (scmp : BinOp → ByteArray → ByteArray → Bool) (slen : ByteArray → Nat) (sget : ByteArray → Nat → Int) (ssub : ByteArray → Nat → Nat → ByteArray) (addk : (List Int → Bool) → List Int → List Int → Bool) (pc : Pu → List DV → Prop) (pb : Pu → List DV → Bool) (pi : Pu → List DV → Int) (pf : Pu → List DV → Nat) (ps : Pu → List DV → ByteArray) (mkok : Int → Int → Nat → Prop) (min_ : Nat → Nat → Nat) (ig : List Int → Nat → Int) (aeq : List SV → List SV → Bool) (P' : Program), P' = P →
      (⟨bin, cmp, un, conv, bnot, beq, band, sel, isel, ofN, toN, inb, nz, nneg, lt, le, room, slb, add, sub, sbin, scmp, slen, sget, ssub, addk, pc, pb, pi, pf, ps, mkok, min_, ig, aeq⟩ : Ar) = std → (∀ a b, cmp .eql a b = decide (a = b)) ∧ (∀ a b, cmp .neq a b = decide (¬ a = b)) ∧ (∀ a b, cmp .lss a b = decide (a < b)) ∧ (∀ a b, cmp .leq a b = decide (a ≤ b)) ∧
      (∀ a b, cmp .gtr a b = decide (b < a)) ∧ (∀ a b, cmp .geq a b = decide (b ≤ a)) ∧
      (∀ k a b, bin .add k a b = k.wrap (a + b)) ∧ (∀ k a b, bin .sub k a b = k.wrap (a - b)) ∧ (∀ k a b, bin .mul k a b = k.wrap (a * b)) ∧
      (∀ k a b, bin .quo k a b = k.wrap (a.tdiv b)) ∧ (∀ k a b, bin .rem k a b = a.tmod b) ∧
      (∀ k a, un .neg k a = k.wrap (0 - a)) ∧ (∀ k a, conv k a = k.wrap a) ∧
      (∀ n, ofN n = (n : Int)) ∧ (∀ i, toN i = i.toNat) ∧ (∀ a b, add a b = a + b) ∧ (∀ a b, sub a b = a - b) ∧ (∀ b, bnot b = !b) ∧ (∀ a b, beq a b = (a == b)) ∧
      (∀ i n, inb i n = (0 ≤ i ∧ i < (n : Int))) ∧ (∀ i, nz i = (i ≠ 0)) ∧ (∀ i, nneg i = (0 ≤ i)) ∧ (∀ a b, lt a b = (a < b)) ∧ (∀ a b, le a b = (a ≤ b)) ∧
      (∀ n b, room n b = (n ≤ maxN ∧ n * b ≤ 140737488355328)) ∧ (∀ l h m c, slb l h m c = (0 ≤ l ∧ l ≤ h ∧ h ≤ m ∧ m ≤ c)) ∧ (∀ s, slen s = s.size) ∧
      (∀ a b, min_ a b = Min.min a b) →
      ∀ Q', Q' = (fun r m => ∃ r' m', Ent mem.length ⟨[r], m⟩ ⟨[r'], m'⟩ ∧ Q r' m') →
      vC ⟨bin, cmp, un, conv, bnot, beq, band, sel, isel, ofN, toN, inb, nz, nneg, lt, le, room, slb, add, sub, sbin, scmp, slen, sget, ssub, addk, pc, pb, pi, pf, ps, mkok, min_, ig, aeq⟩ P' mem.length ic ⟨args ++ junks (nt - args.length), mem1⟩ (bodyK rs Q')) :
    CallOK P f args mem Q := by
  refine fn_rule2 hmx hf he rfl (h std.bin std.cmp std.un std.conv std.bnot std.beq std.band std.sel std.isel std.ofN std.toN std.inb std.nz std.nneg std.lt std.le std.room std.slb std.add std.sub std.sbin std.scmp std.slen std.sget std.ssub std.addk std.pc std.pb std.pi std.pf std.ps std.mkok std.min std.ig std.aeq P rfl rfl ?_ _ rfl)
  exact ⟨std_eql, fun a b => by simp, fun _ _ => rfl, fun _ _ => rfl, fun _ _ => rfl, fun _ _ => rfl, fun _ _ _ => rfl, fun _ _ _ => rfl, fun _ _ _ => rfl, fun _ _ _ => rfl, fun _ _ _ => rfl,
    fun _ _ => rfl, fun _ _ => rfl, fun _ => rfl, fun _ => rfl, fun _ _ => rfl, fun _ _ => rfl, fun _ => rfl, fun _ _ => rfl, fun _ _ => rfl, fun _ => rfl, fun _ => rfl, fun _ _ => rfl, fun _ _ => rfl,
    fun _ _ => rfl, fun _ _ _ _ => rfl, fun _ => rfl, fun _ _ => rfl⟩

end Go.V
