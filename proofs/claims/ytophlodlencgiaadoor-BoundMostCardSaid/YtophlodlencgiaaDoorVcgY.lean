/-
  The program's own tables that are spoken of here: how often calls touch.
-/
import Derived.Test.YtophlodlencgiaaDoorVcgA
namespace Go.V

def gtab : Nat → Option (Nat × Nat × (Nat → Nat → DV))
  | 0 => some (4, 1, fun i _ => .int .i64 (match i with | 0 => 0 | 1 => 10 | _ => 6))
  | _ => none

end Go.V
