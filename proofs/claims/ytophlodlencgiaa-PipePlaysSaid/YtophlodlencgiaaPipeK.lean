/-
  Walks: the methods of a nil pipe.
-/
import Derived.Test.YtophlodlencgiaaPipeG
import Derived.Test.YtophlodlencgiaaVcgX
namespace Go.Proofs.Ytophlodlencgiaa
open Go.V

theorem nil_ready (i : Int) : CallOK (O := Ob) PR n_pipe_Pipe_ready [.dv .nilp, .dv (.int .i64 i)] [] fun r m => r = .dv (.int .i64 1) ∧ m = [] := by
  refine fn_walk mixed fn_pipe_Pipe_ready fun A P hA hP Q hQ => ?_
  cbv
  subst hQ hA
  exact ⟨rfl, rfl⟩

theorem nil_at (i : Int) : CallOK (O := Ob) PR n_pipe_Pipe_at [.dv .nilp, .dv (.int .i64 i)] [] fun r m => r = .tup [.dv .nilp, .dv (.int .i64 1)] ∧ m = [] := by
  refine fn_walk mixed fn_pipe_Pipe_at fun A P hA hP Q hQ => ?_
  cbv
  subst hQ hA
  exact ⟨rfl, rfl⟩

theorem nil_Send (n : Nat) (g : Nat → Nat → DV) : CallOK (O := Ob) PR n_pipe_Pipe_Send [.dv .nilp, .dv (.seq n 1 g)] [] fun r m => r = .dv (.int .i64 1) ∧ m = [] := by
  refine fn_walk mixed fn_pipe_Pipe_Send fun A P hA hP Q hQ => ?_
  cbv
  refine call_pure hP code_pipe_Pipe_ready (nil_ready 0) (by cbv; all_goals trivial) ?_
  rintro r rfl
  cbv
  refine bc_true (by subst hA; simp) ?_
  cbv
  subst hQ hA
  exact ⟨rfl, rfl⟩

theorem nil_Recv : CallOK (O := Ob) PR n_pipe_Pipe_Recv [.dv .nilp] [] fun r m => r = .tup [.dv .nils, .dv (.int .i64 1)] ∧ m = [] := by
  refine fn_walk mixed fn_pipe_Pipe_Recv fun A P hA hP Q hQ => ?_
  cbv
  refine call_pure hP code_pipe_Pipe_ready (nil_ready 1) (by cbv; all_goals trivial) ?_
  rintro r rfl
  cbv
  refine bc_true (by subst hA; simp) ?_
  cbv
  subst hQ hA
  exact ⟨rfl, rfl⟩

theorem nil_Release (k : Int) : CallOK (O := Ob) PR n_pipe_Pipe_Release [.dv .nilp, .dv (.int .i64 k)] [] fun r m => r = .dv (.int .i64 1) ∧ m = [] := by
  refine fn_walk mixed fn_pipe_Pipe_Release fun A P hA hP Q hQ => ?_
  cbv
  refine call_pure hP code_pipe_Pipe_ready (nil_ready 1) (by cbv; all_goals trivial) ?_
  rintro r rfl
  cbv
  refine bc_true (by subst hA; simp) ?_
  cbv
  subst hQ hA
  exact ⟨rfl, rfl⟩

theorem nil_Hold (i : Int) : CallOK (O := Ob) PR n_pipe_Pipe_Hold [.dv .nilp, .dv (.int .i64 i)] [] fun r m => r = .dv (.int .i64 1) ∧ m = [] := by
  refine fn_walk mixed fn_pipe_Pipe_Hold fun A P hA hP Q hQ => ?_
  cbv
  refine call_pure hP code_pipe_Pipe_at (nil_at i) (by cbv; all_goals trivial) ?_
  rintro r rfl
  cbv
  refine bc_true (by subst hA; simp) ?_
  cbv
  subst hQ hA
  exact ⟨rfl, rfl⟩

theorem nil_Start (i : Int) : CallOK (O := Ob) PR n_pipe_Pipe_Start [.dv .nilp, .dv (.int .i64 i)] [] fun r m => r = .dv (.int .i64 1) ∧ m = [] := by
  refine fn_walk mixed fn_pipe_Pipe_Start fun A P hA hP Q hQ => ?_
  cbv
  refine call_pure hP code_pipe_Pipe_at (nil_at i) (by cbv; all_goals trivial) ?_
  rintro r rfl
  cbv
  refine bc_true (by subst hA; simp) ?_
  cbv
  subst hQ hA
  exact ⟨rfl, rfl⟩

theorem nil_Up (i : Int) : CallOK (O := Ob) PR n_pipe_Pipe_Up [.dv .nilp, .dv (.int .i64 i)] [] fun r m => r = .dv (.bool false) ∧ m = [] := by
  refine fn_walk mixed fn_pipe_Pipe_Up fun A P hA hP Q hQ => ?_
  cbv
  refine call_pure hP code_pipe_Pipe_at (nil_at i) (by cbv; all_goals trivial) ?_
  rintro r rfl
  cbv
  refine bc_false (by subst hA; simp) ?_
  cbv
  subst hQ hA
  refine ⟨?_, rfl⟩
  rfl

theorem nil_Linked (i : Int) : CallOK (O := Ob) PR n_pipe_Pipe_Linked [.dv .nilp, .dv (.int .i64 i)] [] fun r m => r = .dv (.bool false) ∧ m = [] := by
  refine fn_walk mixed fn_pipe_Pipe_Linked fun A P hA hP Q hQ => ?_
  cbv
  refine call_pure hP code_pipe_Pipe_Up (nil_Up i) (by cbv; all_goals trivial) ?_
  rintro r rfl
  cbv
  subst hQ hA
  exact ⟨rfl, rfl⟩

theorem nil_Held : CallOK (O := Ob) PR n_pipe_Pipe_Held [.dv .nilp] [] fun r m => r = .dv (.int .i64 0) ∧ m = [] := by
  refine fn_walk mixed fn_pipe_Pipe_Held fun A P hA hP Q hQ => ?_
  cbv
  subst hQ hA
  exact ⟨rfl, rfl⟩

theorem nil_Waits : CallOK (O := Ob) PR n_pipe_Pipe_Waits [.dv .nilp] [] fun r m => r = .dv (.int .i64 0) ∧ m = [] := by
  refine fn_walk mixed fn_pipe_Pipe_Waits fun A P hA hP Q hQ => ?_
  cbv
  refine call_pure hP code_pipe_Pipe_Linked (nil_Linked 0) (by cbv; all_goals trivial) ?_
  rintro r rfl
  cbv
  subst hQ hA
  exact ⟨rfl, rfl⟩

end Go.Proofs.Ytophlodlencgiaa
