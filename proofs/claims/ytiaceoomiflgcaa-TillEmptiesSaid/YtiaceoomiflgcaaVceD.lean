/-
  Tables of a program for the concrete executor.
-/
import Derived.Test.YtiaceoomiflgcaaVceC
namespace Go.V
variable {O : Type} [Objs O]

abbrev Prim (O : Type) := List SV → List (Chunk O) → Option (SV × List (Chunk O))

end Go.V
