/-
  Walks: the statement on what a foe may.
-/
import Derived.Test.YtophlodlencgiaaDoorFFoeJ
namespace Go.Proofs.YtophlodlencgiaaDoor
open Go.V

theorem ok_alive : CallOK (O := Ob) PR n_law23_alive [] [] fun x m => x = .dv (.bool true) ∧ m = [] := by
  refine CallOK.drop (fn_walk mixed fn_law23_alive fun A P hA hP Q hQ => ?_)
  have allowed : ∀ at_ : Int, -9223372036854775808 ≤ at_ ∧ at_ ≤ 9223372036854775807 → CallOK (O := Ob) PR n_foe_Allowed [.agg [.dv (.int .i64 3), .dv (.int .i64 2), .dv (.int .i64 1)], .dv (.int .i64 2), .agg [.dv (.int .i64 8), .dv (.int .i64 2), .dv (.int .i64 0), .dv (.int .i64 0), .dv .nils, .dv (.int .i64 at_), .dv (.int .i64 0)]] [] fun x m =>
      (∃ v, v = allowI 3 2 1 2 8 2 at_ ∧ x = .dv (.bool v)) ∧ m = [] := fun at_ h =>
    CallOK.pre (Ent.weak (.cons (.same _) (.cons (.same _) (.cons (.agg (.cons (.same _) (.cons (.same _) (.cons (.same _) (.cons (.same _) (.cons (.dv (.nil 1 fun _ _ => .nils)) (.cons (.same _) (.cons (.same _) .nil)))))))) .nil)))) (ok_Allowed 3 2 1 2 8 2 0 0 at_ 0 0 (fun _ _ => .nils) h)
  cbv
  refine call_pure hP code_foe_Mine (ok_Mine 3 2 1 2 26) (by cbv; all_goals simp) ?_
  rintro _ ⟨v1, e1, rfl⟩
  obtain rfl : v1 = true := e1.trans (by decide +kernel)
  cbv
  refine call_pure hP code_foe_Mine (ok_Mine 3 2 1 2 0) (by cbv; all_goals simp) ?_
  rintro _ ⟨v2, e2, rfl⟩
  obtain rfl : v2 = false := e2.trans (by decide +kernel)
  cbv
  refine bc_true (by subst hA; rfl) ?_
  cbv
  refine call_pure hP code_foe_Allowed (allowed 26 (by omega)) (by cbv; all_goals simp) ?_
  rintro _ ⟨v3, e3, rfl⟩
  obtain rfl : v3 = true := e3.trans (by decide +kernel)
  cbv
  refine call_pure hP code_foe_Allowed (allowed 3 (by omega)) (by cbv; all_goals simp) ?_
  rintro _ ⟨v4, e4, rfl⟩
  obtain rfl : v4 = false := e4.trans (by decide +kernel)
  cbv
  subst hQ hA
  exact ⟨.dv (.bool true), rfl, rfl⟩

theorem ok_FoeMay (c r b core kd co pe ha at_ wd t0 t1 : Int) (n : Nat) (g : Nat → Nat → DV) (hlo : -9223372036854775808 ≤ at_ ∧ at_ ≤ 9223372036854775807) :
    CallOK (O := Ob) PR n_law23_FoeMay [.agg [.dv (.int .i64 c), .dv (.int .i64 r), .dv (.int .i64 b)], .dv (.int .i64 core), .agg [.dv (.int .i64 kd), .dv (.int .i64 co), .dv (.int .i64 pe), .dv (.int .i64 ha), .dv (.seq n 1 g), .dv (.int .i64 at_), .dv (.int .i64 wd)], .agg [.dv (.int .i64 t0), .dv (.int .i64 t1)]] [] fun x _ => x = .dv (.bool true) := by
  refine CallOK.ent (Q := fun x m => x = .dv (.bool true) ∧ m = []) (CallOK.drop (fn_walk mixed fn_law23_FoeMay fun A P hA hP Q hQ => ?_)) fun r m h => ⟨r, m, Ent.refl _ _, h.1⟩
  cbv
  intro hn
  cbv
  refine bc_split (fun h1 => ?_) (fun h1 => ?_)
  · cbv
    refine call_pure hP code_law23_alive ok_alive (by cbv; all_goals trivial) ?_
    rintro _ rfl
    cbv
    subst hQ hA
    exact ⟨.dv (.bool true), rfl, rfl⟩
  cbv
  refine call_pure hP code_foe_Mine (ok_Mine c r b core at_) (by cbv; all_goals simp) ?_
  rintro _ ⟨v1, e1, rfl⟩
  cbv
  refine call_pure hP code_ref23_Mine (okR_Mine c r b core at_) (by cbv; all_goals simp) ?_
  rintro _ ⟨v2, e2, rfl⟩
  obtain rfl : v1 = v2 := e1.trans e2.symm
  cbv
  refine bc_true (by subst hA; simp) ?_
  cbv
  refine call_pure hP code_foe_Allowed (ok_Allowed c r b core kd co pe ha at_ wd n g hlo) (by cbv; all_goals simp) ?_
  rintro _ ⟨v3, e3, rfl⟩
  cbv
  refine call_pure hP code_ref23_Allowed (okR_Allowed c r b core kd co pe ha at_ wd n g) (by cbv; all_goals simp) ?_
  rintro _ ⟨v4, e4, rfl⟩
  obtain rfl : v3 = v4 := e3.trans e4.symm
  cbv
  refine bc_true (by subst hA; simp) ?_
  cbv
  refine ⟨by subst hA; simp, fun k hk hk2 => ?_⟩
  obtain rfl : k = 0 := by subst hA; simp at hk; omega
  cbv
  refine ⟨by subst hA; simp, fun k hk hk2 => ?_⟩
  obtain rfl : k = 1 := by subst hA; simp at hk; omega
  cbv
  refine ⟨by subst hA; simp, fun k hk hk2 => ?_⟩
  obtain rfl : k = 0 := by subst hA; simp at hk; omega
  cbv
  refine ⟨by subst hA; simp, fun k hk hk2 => ?_⟩
  obtain rfl : k = 1 := by subst hA; simp at hk; omega
  cbv
  refine call_pure hP code_foe_Honest (ok_Honest c r b core t0 t1) (by cbv; all_goals simp) ?_
  rintro _ ⟨v5, e5, rfl⟩
  cbv
  refine call_pure hP code_ref23_Honest (okR_Honest c r b core t0 t1) (by cbv; all_goals simp) ?_
  rintro _ ⟨v6, e6, rfl⟩
  obtain rfl : v5 = v6 := e5.trans e6.symm
  cbv
  refine bc_true (by subst hA; simp) ?_
  cbv
  refine call_pure hP code_law23_alive ok_alive (by cbv; all_goals trivial) ?_
  rintro _ rfl
  cbv
  subst hQ hA
  exact ⟨.dv (.bool true), rfl, rfl⟩

end Go.Proofs.YtophlodlencgiaaDoor
