/-
  A window of a vector of data becomes whole for ever.
-/
import Derived.Test.YtiaceoomiflgcaaVchD
namespace Go.V

end Go.V
