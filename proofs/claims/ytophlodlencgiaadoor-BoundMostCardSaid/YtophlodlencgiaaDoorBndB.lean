/-
  Walks: how often any call may touch is what the document says.
-/
import Derived.Test.YtophlodlencgiaaDoorBndA
namespace Go.Proofs.YtophlodlencgiaaDoor
open Go.V

set_option maxHeartbeats 4000000 in
theorem ok_BoundMost (kind ring words c r b : Int) : CallOK (O := Ob) PR n_law24_BoundMost [.dv (.int .i64 kind), .dv (.int .i64 ring), .dv (.int .i64 words), .agg [.dv (.int .i64 c), .dv (.int .i64 r), .dv (.int .i64 b)]] [] fun x _ => x = .dv (.bool true) := by
  refine fn_walk2 mixed fn_law24_BoundMost (Ent.refl _ _) fun A P hA hP Q hQ => ?_
  cbv
  refine bc_split (fun h1 => ?_) (fun h1 => ?_)
  · cbv
    refine call_pure hP code_law24_alive ok_alive (by cbv; all_goals trivial) ?_
    rintro r rfl
    cbv
    subst hQ hA
    exact ⟨.dv (.bool true), [], Ent.none_ rfl, rfl⟩
  cbv
  refine bc_split (fun h2 => ?_) (fun h2 => ?_)
  · cbv
    refine call_pure hP code_law24_alive ok_alive (by cbv; all_goals trivial) ?_
    rintro r rfl
    cbv
    subst hQ hA
    exact ⟨.dv (.bool true), [], Ent.none_ rfl, rfl⟩
  cbv
  refine bc_split (fun h3 => ?_) (fun h3 => ?_)
  · cbv
    refine call_pure hP code_law24_alive ok_alive (by cbv; all_goals trivial) ?_
    rintro r rfl
    cbv
    subst hQ hA
    exact ⟨.dv (.bool true), [], Ent.none_ rfl, rfl⟩
  cbv
  refine bc_split (fun h4 => ?_) (fun h4 => ?_)
  · cbv
    refine call_pure hP code_law24_alive ok_alive (by cbv; all_goals trivial) ?_
    rintro r rfl
    cbv
    subst hQ hA
    exact ⟨.dv (.bool true), [], Ent.none_ rfl, rfl⟩
  cbv
  refine bc_split (fun h5 => ?_) (fun h5 => ?_)
  · cbv
    refine call_pure hP code_law24_alive ok_alive (by cbv; all_goals trivial) ?_
    rintro r rfl
    cbv
    subst hQ hA
    exact ⟨.dv (.bool true), [], Ent.none_ rfl, rfl⟩
  cbv
  refine bc_split (fun h6 => ?_) (fun h6 => ?_)
  · cbv
    refine call_pure hP code_law24_alive ok_alive (by cbv; all_goals trivial) ?_
    rintro r rfl
    cbv
    subst hQ hA
    exact ⟨.dv (.bool true), [], Ent.none_ rfl, rfl⟩
  cbv
  refine call_pure hP code_bound_Most (ok_Most kind ring words) (by cbv; all_goals trivial) ?_
  rintro _ ⟨v, hv, rfl⟩
  cbv
  refine call_pure hP code_ref24_Most (okR_Most kind ring words) (by cbv; all_goals trivial) ?_
  rintro _ ⟨w, hw, rfl⟩
  cbv
  refine bc_true (by subst hA; simp [hv, hw]) ?_
  cbv
  refine call_pure hP code_bound_Rest (ok_Rest c r b) (by cbv; all_goals simp) ?_
  rintro _ ⟨u, hu, rfl⟩
  cbv
  refine bc_true (by subst hA; show std.cmp .eql u (std.bin .mul .i64 c (std.bin .add .i64 (std.bin .add .i64 r 18) b)) = true; rw [hu]; simp) ?_
  cbv
  refine call_pure hP code_law24_alive ok_alive (by cbv; all_goals trivial) ?_
  rintro _ rfl
  cbv
  subst hQ hA
  exact ⟨.dv (.bool true), [], Ent.none_ rfl, rfl⟩

end Go.Proofs.YtophlodlencgiaaDoor
