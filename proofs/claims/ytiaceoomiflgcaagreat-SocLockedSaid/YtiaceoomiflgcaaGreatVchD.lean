/-
  Vectors that become whole for ever ahead of a call, several at once.
-/
import Derived.Test.YtiaceoomiflgcaaGreatVchC
namespace Go.V
variable {O : Type} [Objs O]

/-! ### Vectors become whole for ever, several at once -/
def frzsV : List (Nat × Nat × Nat × (Nat → Nat → DV)) → List SV → List SV
  | [], l => l
  | (h, m, sz, g) :: r, l => frzsV r (frzL h (.seq m sz g) l)

def frzsM : List (Nat × Nat × Nat × (Nat → Nat → DV)) → List (Chunk O) → List (Chunk O)
  | [], m => m
  | (h, _) :: r, m => frzsM r (lset m h .gone)

def FrzOK : List (Nat × Nat × Nat × (Nat → Nat → DV)) → List (Chunk O) → Prop
  | [], _ => True
  | (h, n, sz, g) :: r, m => (match lget m h with | some (.vec n' sz' at_) => n' = n ∧ sz' = sz ∧ ∀ i f, i < n → f < sz → at_ i f = .dv (g i f) | _ => False) ∧ FrzOK r (lset m h .gone)

theorem Ent.frzs {n : Nat} : ∀ (l : List (Nat × Nat × Nat × (Nat → Nat → DV))) {env : List SV} {mem : List (Chunk O)}, FrzOK l mem → Ent n ⟨env, mem⟩ ⟨frzsV l env, frzsM l mem⟩
  | [], _, _, _ => Ent.refl _ _
  | (h, m, sz, g) :: r, env, mem, hl => by
    obtain ⟨h1, h2⟩ := hl
    split at h1
    · rename_i n' sz' at_ e
      obtain ⟨rfl, rfl, h3⟩ := h1
      exact (Ent.frz h g e h3).trans (Ent.frzs r h2)
    · exact h1.elim

theorem frzsV_append : ∀ (l : List (Nat × Nat × Nat × (Nat → Nat → DV))) (a b : List SV), frzsV l (a ++ b) = frzsV l a ++ frzsV l b
  | [], _, _ => rfl
  | (h, m, sz, g) :: r, a, b => by simp only [frzsV, frzL_append, frzsV_append r]

theorem frzsV_length : ∀ (l : List (Nat × Nat × Nat × (Nat → Nat → DV))) (a : List SV), (frzsV l a).length = a.length
  | [], _ => rfl
  | (h, m, sz, g) :: r, a => by simp only [frzsV, frzsV_length r, frzL_length]

theorem call_frzs {P' : Program} {f : FuncId} {d : Option Nat} {xs : List X} {s : St O} {K : St O → Prop} (l : List (Nat × Nat × Nat × (Nat → Nat → DV))) (hl : FrzOK l s.mem)
    (h : CallVC P' f d ((frzsV l (xs.map s.ev)).map X.c) ⟨frzsV l s.env, frzsM l s.mem⟩ K) : CallVC P' f d xs s K := by
  refine ⟨h.c, fun fr a w vs hX next hnext => ?_⟩
  obtain ⟨hd, β, I, F, hM, hE, hW, hB, hN, hV⟩ := hX
  have hs0 : Sat fr (⟨xs.map s.ev ++ s.env, s.mem⟩ : St O) { tmps := (vs ++ a.tmps.toList).toArray, defers := [] } w :=
    ⟨rfl, β, I, F, hM, by simpa using RelL.append hV hE, hW, hB, hN⟩
  obtain ⟨_, β1, I1, F1, k1, k2, k3, k4, k5⟩ := Ent.frzs (n := fr.n) l (env := xs.map s.ev ++ s.env) hl fr _ w rfl hs0
  have k2 : RelL β1 (frzsM l s.mem).length I1 w (frzsV l (xs.map s.ev ++ s.env)) (vs ++ a.tmps.toList) := by simpa using k2
  rw [frzsV_append] at k2
  have hsp := RelL.split (by rw [frzsV_length]; exact hV.length) k2
  exact h.h fr a w vs ⟨hd, β1, I1, F1, k1, hsp.2, k3, k4, k5, by rw [map_c]; exact hsp.1⟩ next hnext

/-- A call whose arguments are seen as values that say less. -/
theorem call_weak {P' : Program} {f : FuncId} {d : Option Nat} {xs : List X} {s : St O} {K : St O → Prop} (args : List SV) (hw : WLes (xs.map s.ev) args) (h : CallVC P' f d (args.map X.c) s K) : CallVC P' f d xs s K := by
  refine ⟨h.c, fun fr a w vs hX next hnext => ?_⟩
  obtain ⟨hd, β, I, F, hM, hE, hW, hB, hN, hV⟩ := hX
  exact h.h fr a w vs ⟨hd, β, I, F, hM, hE, hW, hB, hN, by rw [map_c]; exact hw.rel hV⟩ next hnext

/-- A loop by an index of any kind of which something holds, from the state at hand. -/
theorem loop_ix {P P' : Program} (hm : P.follows .mixedOrders = true) (hP : P' = P) {A : Ar} (hA : A = std) {n : Nat} {b : IC} {s : St O} {K : Ex → St O → Prop} {ι : Type} (μ : ι → Nat) (p : ι → Prop) (js : List Nat) (cs : ι → List (Nat × SV)) (mem : ι → List (Chunk O)) (i0 : ι) (p0 : p i0)
    (h0 : Ent n s ⟨putsL (junkL s.env js) (cs i0), mem i0⟩) (round : ∀ (Nx : St O → Prop) i, (∀ s' j, p j → μ j < μ i → Ent n s' ⟨putsL (junkL s.env js) (cs j), mem j⟩ → Nx s') → p i → vC A P' n b ⟨putsL (junkL s.env js) (cs i), mem i⟩ fun e s' => (match e with
      | .normal => Nx s'
      | .exit l => K (.exit l) s'
      | .goto l => K (.goto l) s'
      | .ret => K .ret s')) : LoopVC P' n b s K :=
  loop_by hm hP hA (ι := { i : ι // p i }) (fun x => μ x.1) js (fun x => cs x.1) (fun x => mem x.1) ⟨i0, p0⟩ h0 fun Nx x h => round Nx x.1 (fun s' j hj hm he => h s' ⟨j, hj⟩ hm he) x.2

end Go.V
