/-
  The program's own tables that are spoken of here: none.
-/
import Derived.Test.YtiaceoomiflgcaaVcgA
namespace Go.V

def gtab : Nat → Option (Nat × Nat × (Nat → Nat → DV)) := fun _ => none

end Go.V
