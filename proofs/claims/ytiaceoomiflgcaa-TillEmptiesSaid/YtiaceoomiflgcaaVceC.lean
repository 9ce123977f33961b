/-
  The concrete executor tells the truth: code, loops, scopes, calls.
-/
import Derived.Test.YtiaceoomiflgcaaVceB
import Derived.LoopN
namespace Go.V
variable {O : Type} [Objs O]

end Go.V
