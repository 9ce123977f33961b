/-
  Walks: a pipe that is nil has nothing, and does nothing.
-/
import Derived.Test.YtophlodlencgiaaPipeN
namespace Go.Proofs.Ytophlodlencgiaa
open Go.V

theorem nil_do (kind k : Int) (n : Nat) (g : Nat → Nat → DV) : CallOK (O := Ob) PR n_law25_do [.dv .nilp, .agg [.dv (.int .i64 kind), .dv (.int .i64 k), .dv (.seq n 1 g)]] [] fun r m => r = .tup [.dv .nils, .dv (.int .i64 1)] ∧ m = [] := by
  refine fn_walk2 mixed fn_law25_do (Ent.refl _ _) fun A P hA hP Q hQ => ?_
  cbv
  refine bc_split (fun h1 => ?_) (fun h1 => ?_)
  · cbv
    refine call_pure hP code_pipe_Pipe_Send (nil_Send n g) (by cbv; all_goals first | simp | trivial) ?_
    rintro r rfl
    cbv
    subst hQ hA
    exact ⟨.tup [.dv .nils, .dv (.int .i64 1)], [], Ent.none_ rfl, rfl, rfl⟩
  · cbv
    refine bc_split (fun h1 => ?_) (fun h1 => ?_)
    · cbv
      refine call_pure hP code_pipe_Pipe_Release (nil_Release k) (by cbv; all_goals first | simp | trivial) ?_
      rintro r rfl
      cbv
      subst hQ hA
      exact ⟨.tup [.dv .nils, .dv (.int .i64 1)], [], Ent.none_ rfl, rfl, rfl⟩
    · cbv
      refine bc_split (fun h1 => ?_) (fun h1 => ?_)
      · cbv
        refine call_pure hP code_pipe_Pipe_Hold (nil_Hold k) (by cbv; all_goals first | simp | trivial) ?_
        rintro r rfl
        cbv
        subst hQ hA
        exact ⟨.tup [.dv .nils, .dv (.int .i64 1)], [], Ent.none_ rfl, rfl, rfl⟩
      · cbv
        refine bc_split (fun h1 => ?_) (fun h1 => ?_)
        · cbv
          refine call_pure hP code_pipe_Pipe_Start (nil_Start k) (by cbv; all_goals first | simp | trivial) ?_
          rintro r rfl
          cbv
          subst hQ hA
          exact ⟨.tup [.dv .nils, .dv (.int .i64 1)], [], Ent.none_ rfl, rfl, rfl⟩
        · cbv
          refine call_pure hP code_pipe_Pipe_Recv nil_Recv (by cbv; all_goals first | simp | trivial) ?_
          rintro r rfl
          cbv
          subst hQ hA
          exact ⟨.tup [.dv .nils, .dv (.int .i64 1)], [], Ent.none_ rfl, rfl, rfl⟩

theorem ok_PipeNobody (kind k : Int) (n : Nat) (g : Nat → Nat → DV) : CallOK (O := Ob) PR n_law25_PipeNobody [.agg [.dv (.int .i64 kind), .dv (.int .i64 k), .dv (.seq n 1 g)]] [] fun r _ => r = .dv (.bool true) := by
  refine fn_walk2 mixed fn_law25_PipeNobody (Ent.refl _ _) fun A P hA hP Q hQ => ?_
  cbv
  refine call_pure hP code_law25_do (nil_do kind k n g) (by cbv; all_goals first | simp | trivial) ?_
  rintro r rfl
  cbv
  refine bc_true (by subst hA; simp) ?_
  cbv
  refine bc_true (by subst hA; simp) ?_
  cbv
  refine call_pure hP code_pipe_Pipe_Up (nil_Up k) (by cbv; all_goals first | simp | trivial) ?_
  rintro r rfl
  cbv
  refine bc_true (by subst hA; simp) ?_
  cbv
  refine call_pure hP code_pipe_Pipe_Linked (nil_Linked k) (by cbv; all_goals first | simp | trivial) ?_
  rintro r rfl
  cbv
  refine bc_true (by subst hA; simp) ?_
  cbv
  refine call_pure hP code_pipe_Pipe_Held nil_Held (by cbv; all_goals first | simp | trivial) ?_
  rintro r rfl
  cbv
  refine bc_true (by subst hA; simp) ?_
  cbv
  refine call_pure hP code_pipe_Pipe_Waits nil_Waits (by cbv; all_goals first | simp | trivial) ?_
  rintro r rfl
  cbv
  refine bc_true (by subst hA; simp) ?_
  cbv
  refine call_pure hP code_law25_alive ok_alive (by cbv; all_goals first | simp | trivial) ?_
  rintro r rfl
  cbv
  subst hQ hA
  exact ⟨.dv (.bool true), [], Ent.none_ rfl, rfl⟩

end Go.Proofs.Ytophlodlencgiaa
