/-
  The examples of the chapters: reckoned.
-/
import Derived.Test.YtjfkoehlhgdmgaaDoorGnIr
namespace Go.Proofs.YtjfkoehlhgdmgaaDoor
open Go.V

def T0 : Tb Ob := mkTb tabL methL [] []
theorem T0_ok : Tb.OK PR T0 := mkTb_ok tabL_ok methL_ok (fun _ h => nomatch h) (fun _ h => nomatch h)

theorem ok_alive16 : CallOK (O := Ob) PR n_law16_alive [] [] fun r _ => r = .dv (.bool true) :=
  (run_call mixed T0_ok 1000 40 isTrue (by kernel_rfl)).mono fun _ _ h => isTrue_ok h
theorem ok_alive17 : CallOK (O := Ob) PR n_law17_alive [] [] fun r _ => r = .dv (.bool true) :=
  (run_call mixed T0_ok 1000 40 isTrue (by kernel_rfl)).mono fun _ _ h => isTrue_ok h
end Go.Proofs.YtjfkoehlhgdmgaaDoor
