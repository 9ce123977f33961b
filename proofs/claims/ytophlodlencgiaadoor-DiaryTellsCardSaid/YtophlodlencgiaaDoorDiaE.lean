/-
  The chapter's example: reckoned.
-/
import Derived.Test.YtophlodlencgiaaDoorDiaD
import Derived.Test.YtophlodlencgiaaDoorVceD
namespace Go.Proofs.YtophlodlencgiaaDoor
open Go.V

def tabL : List (Nat × FE) := [(n_law19_alive, ⟨4, ir_law19_alive, [.t 0]⟩), (n_diary_Text, ⟨49, ir_diary_Text, [.t 2]⟩), (n_strconv_Itoa, ⟨5, ir_strconv_Itoa, [.t 2]⟩), (n_internal_strconv_Itoa, ⟨5, ir_internal_strconv_Itoa, [.t 2]⟩), (n_internal_strconv_FormatInt, ⟨54, ir_internal_strconv_FormatInt, [.t 4]⟩), (n_internal_strconv_small, ⟨15, ir_internal_strconv_small, [.t 2]⟩)]
theorem tabL_ok : ∀ p ∈ tabL, codeFn PR p.1 = true ∧ Go.V.Fn PR p.1 p.2.nt p.2.ic p.2.rs :=
  List.forall_mem_cons.2 ⟨⟨code_law19_alive, fn_law19_alive⟩, 
  List.forall_mem_cons.2 ⟨⟨code_diary_Text, fn_diary_Text⟩, 
  List.forall_mem_cons.2 ⟨⟨code_strconv_Itoa, fn_strconv_Itoa⟩, 
  List.forall_mem_cons.2 ⟨⟨code_internal_strconv_Itoa, fn_internal_strconv_Itoa⟩, 
  List.forall_mem_cons.2 ⟨⟨code_internal_strconv_FormatInt, fn_internal_strconv_FormatInt⟩, 
  List.forall_mem_cons.2 ⟨⟨code_internal_strconv_small, fn_internal_strconv_small⟩, fun _ h => nomatch h⟩⟩⟩⟩⟩⟩
def TT : Tb Ob := mkTb tabL [] [] []
theorem TT_ok : Tb.OK PR TT := mkTb_ok tabL_ok (fun _ h => nomatch h) (fun _ h => nomatch h) (fun _ h => nomatch h)

theorem ok_alive : CallOK (O := Ob) PR n_law19_alive [] [] fun r m => r = .dv (.bool true) ∧ m = [] := by
  refine ((run_call mixed TT_ok 60 12 isTrue (by kernel_rfl)).mono fun _ _ h => isTrue_ok h).ent ?_
  rintro r m rfl
  exact ⟨.dv (.bool true), [], Ent.none_ rfl, rfl, rfl⟩

end Go.Proofs.YtophlodlencgiaaDoor
