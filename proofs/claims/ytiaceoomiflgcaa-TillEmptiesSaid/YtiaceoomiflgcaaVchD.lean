/-
  Vectors that become whole for ever ahead of a call, several at once.
-/
import Derived.Test.YtiaceoomiflgcaaVchC
namespace Go.V
variable {O : Type} [Objs O]

/-! ### Vectors become whole for ever, several at once -/
/-- A loop by an index of any kind of which something holds, from the state at hand. -/
theorem loop_ix {P P' : Program} (hm : P.follows .mixedOrders = true) (hP : P' = P) {A : Ar} (hA : A = std) {n : Nat} {b : IC} {s : St O} {K : Ex → St O → Prop} {ι : Type} (μ : ι → Nat) (p : ι → Prop) (js : List Nat) (cs : ι → List (Nat × SV)) (mem : ι → List (Chunk O)) (i0 : ι) (p0 : p i0)
    (h0 : Ent n s ⟨putsL (junkL s.env js) (cs i0), mem i0⟩) (round : ∀ (Nx : St O → Prop) i, (∀ s' j, p j → μ j < μ i → Ent n s' ⟨putsL (junkL s.env js) (cs j), mem j⟩ → Nx s') → p i → vC A P' n b ⟨putsL (junkL s.env js) (cs i), mem i⟩ fun e s' => (match e with
      | .normal => Nx s'
      | .exit l => K (.exit l) s'
      | .goto l => K (.goto l) s'
      | .ret => K .ret s')) : LoopVC P' n b s K :=
  loop_by hm hP hA (ι := { i : ι // p i }) (fun x => μ x.1) js (fun x => cs x.1) (fun x => mem x.1) ⟨i0, p0⟩ h0 fun Nx x h => round Nx x.1 (fun s' j hj hm he => h s' ⟨j, hj⟩ hm he) x.2

end Go.V
