/-
  A board that is nil is settled, and has nothing: reckoned.
-/
import Derived.Test.YtibjefabebjfdaaGreatDoorBnIr
namespace Go.Proofs.YtibjefabebjfdaaGreatDoor
open Go.V

def TT : Tb Ob := mkTb tabL methL [] []
theorem TT_ok : Tb.OK PR TT := mkTb_ok tabL_ok methL_ok (fun _ h => nomatch h) (fun _ h => nomatch h)

theorem ok_BoundNobody (x y : Int) : CallOK (O := Ob) PR n_law24_BoundNobody [.dv (.int .i64 x), .dv (.int .i64 y)] [] fun r _ => r = .dv (.bool true) :=
  (run_call mixed TT_ok 100 20 isTrue (by kernel_rfl)).mono fun _ _ h => isTrue_ok h

end Go.Proofs.YtibjefabebjfdaaGreatDoor
