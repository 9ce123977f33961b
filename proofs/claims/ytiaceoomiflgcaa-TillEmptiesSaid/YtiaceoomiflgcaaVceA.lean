/-
  A concrete executor: what a closed call tells, reckoned; every order that is open is gone through.
-/
import Derived.Test.YtiaceoomiflgcaaVcgX
namespace Go.V
variable {O : Type} [Objs O]

structure FE where
  nt : Nat
  ic : IC
  rs : List RV

/-- What is known of a program: its functions' code; functions that are told by hand; methods; sets of keys. -/
structure Tb (O : Type) where
  fn : FuncId → Option FE
  pm : FuncId → Option (List SV → List (Chunk O) → Option (SV × List (Chunk O)))
  me : TypeId → String → Option FuncId
  sk : TypeId → Nat → List Int → Bool
  ea : TypeId → Nat → Bool

abbrev Kt (O : Type) := St O → Bool
abbrev CallT (O : Type) := FuncId → List SV → List (Chunk O) → (SV → List (Chunk O) → Bool) → Bool

abbrev Kx (O : Type) := Ex → St O → Bool

/-- What a deeper level does: calls; going on at a label of a scope. -/
structure Ev (O : Type) where
  call : CallT O
  res : IC → Nat → St O → Kx O → Bool

end Go.V
