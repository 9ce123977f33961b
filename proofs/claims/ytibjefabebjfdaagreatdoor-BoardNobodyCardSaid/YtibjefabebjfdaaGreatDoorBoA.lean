/-
  A board that is nil: reckoned.
-/
import Derived.Test.YtibjefabebjfdaaGreatDoorFndD
namespace Go.Proofs.YtibjefabebjfdaaGreatDoor
open Go.V

theorem conf_eq : EqAg PR 48 3 := eqAg_ints (by kernel_rfl) (by kernel_rfl) (by kernel_rfl) (by kernel_rfl)

def TT : Tb Ob := mkTb tabL methL [(48, 3)] [(338, findP)]
theorem TT_ok : Tb.OK PR TT := mkTb_ok tabL_ok methL_ok (List.forall_mem_cons.2 ⟨conf_eq, fun _ h => nomatch h⟩) (List.forall_mem_cons.2 ⟨⟨code_cell_Find, findP_ok⟩, fun _ h => nomatch h⟩)

theorem ok_BoardNobody (k c p h : Int) (n : Nat) (l : Nat → Nat → DV) (a w : Int) : CallOK (O := Ob) PR n_law20_BoardNobody [.agg [.dv (.int .i64 k), .dv (.int .i64 c), .dv (.int .i64 p), .dv (.int .i64 h), .dv (.seq n 1 l), .dv (.int .i64 a), .dv (.int .i64 w)]] [] fun r _ => r = .dv (.bool true) :=
  (run_call mixed TT_ok 1000 40 isTrue (by kernel_rfl)).mono fun _ _ h => isTrue_ok h

end Go.Proofs.YtibjefabebjfdaaGreatDoor
