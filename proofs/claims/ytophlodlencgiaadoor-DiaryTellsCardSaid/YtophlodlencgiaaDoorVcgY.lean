/-
  The program's own tables that are spoken of here: the powers of ten.
-/
import Derived.Test.YtophlodlencgiaaDoorVcgA
namespace Go.V

def gtab : Nat → Option (Nat × Nat × (Nat → Nat → DV))
  | 2 => some (20, 1, fun i _ => .int .u64 ((10 ^ i : Nat) : Int))
  | _ => none

end Go.V
