/-
  A taker that is nil: reckoned.
-/
import Derived.Test.YtjfkoehlhgdmgaaDoorGnB
namespace Go.Proofs.YtjfkoehlhgdmgaaDoor
open Go.V

theorem ok_TakerNobody (x : Int) : CallOK (O := Ob) PR n_law17_TakerNobody [.dv (.int .i64 x)] [] fun r _ => r = .dv (.bool true) :=
  (run_call mixed T0_ok 1000 40 isTrue (by kernel_rfl)).mono fun _ _ h => isTrue_ok h
end Go.Proofs.YtjfkoehlhgdmgaaDoor
