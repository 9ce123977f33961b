/-
  A till that is nil: reckoned.
-/
import Derived.Test.YtibjefabebjfdaaFndD
namespace Go.Proofs.Ytibjefabebjfdaa
open Go.V

def TT : Tb Ob := mkTb tabL methL [] [(84, findP)]
theorem TT_ok : Tb.OK PR TT := mkTb_ok tabL_ok methL_ok (fun _ h => nomatch h) (List.forall_mem_cons.2 ⟨⟨code_cell_Find, findP_ok⟩, fun _ h => nomatch h⟩)

theorem ok_TillNobody (x : Int) : CallOK (O := Ob) PR n_law18_TillNobody [.dv (.int .i64 x)] [] fun r _ => r = .dv (.bool true) :=
  (run_call mixed TT_ok 1000 40 isTrue (by kernel_rfl)).mono fun _ _ h => isTrue_ok h

end Go.Proofs.Ytibjefabebjfdaa
