/-
  '==' at a struct whose fields are whole numbers.
-/
import Derived.Test.YtiaceoomiflgcaaVceD
import Derived.ChangeKeysEq
import Derived.Laws.StructEq
namespace Go.V

end Go.V
