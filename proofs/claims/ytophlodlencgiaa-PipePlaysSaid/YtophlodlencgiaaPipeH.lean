/-
  Walks: the document's pipe, words and links.
-/
import Derived.Test.YtophlodlencgiaaPipeG
namespace Go.Proofs.Ytophlodlencgiaa
open Go.V

theorem ok_ref01_Word (a : Int) : CallOK (O := Ob) PR n_ref01_Word [.dv (.int .i64 a)] [] fun r m => (∃ v, v = a % 65536 ∧ r = .dv (.int .i64 v)) ∧ m = [] := by
  refine fn_walk mixed fn_ref01_Word fun A P hA hP Q hQ => ?_
  cbv
  refine ⟨by subst hA; simp, ?_⟩
  cbv
  refine bc_split (fun h1 => ?_) (fun h1 => ?_)
  · cbv
    subst hQ hA
    refine ⟨⟨_, ?_, rfl⟩, rfl⟩
    show std.bin .add .i64 (std.bin .rem .i64 a 65536) 65536 = _
    have h1 : std.cmp .lss (std.bin .rem .i64 a 65536) 0 = true := h1
    simp only [std_lss, std_rem, decide_eq_true_eq] at h1
    simp only [std_add, std_rem]
    have := tmod_cases a 65536 (by omega)
    rw [w64_in (by omega)]; omega
  · cbv
    subst hQ hA
    refine ⟨⟨_, ?_, rfl⟩, rfl⟩
    show std.bin .rem .i64 a 65536 = _
    have h1 : std.cmp .lss (std.bin .rem .i64 a 65536) 0 = false := h1
    simp only [std_lss, std_rem, decide_eq_false_iff_not] at h1
    simp only [std_rem]
    have := tmod_cases a 65536 (by omega)
    omega

theorem ok_ref01_Add (a b : Int) : CallOK (O := Ob) PR n_ref01_Add [.dv (.int .i64 a), .dv (.int .i64 b)] [] fun r m => (∃ v, v = (a + b) % 65536 ∧ r = .dv (.int .i64 v)) ∧ m = [] := by
  refine fn_walk mixed fn_ref01_Add fun A P hA hP Q hQ => ?_
  cbv
  refine call_pure hP code_ref01_Word (ok_ref01_Word _) (by cbv; all_goals trivial) ?_
  rintro r ⟨x, hx, rfl⟩
  cbv
  refine call_pure hP code_ref01_Word (ok_ref01_Word _) (by cbv; all_goals trivial) ?_
  rintro r ⟨y, hy, rfl⟩
  cbv
  refine call_pure hP code_ref01_Word (ok_ref01_Word _) (by cbv; all_goals trivial) ?_
  rintro r ⟨z, hz, rfl⟩
  cbv
  subst hQ hA
  refine ⟨⟨_, ?_, rfl⟩, rfl⟩
  rw [std_add, w64_in (by omega)] at hz
  omega

theorem ok_ref25_link (x : PEnd) : CallOK (O := Ob) PR n_ref25_link [.agg [.dv (.bool x.held), .dv (.bool x.linked), .dv (.int .i64 x.epoch), .dv (.int .i64 x.known), .dv (.int .i64 x.mark)]] [] fun r m =>
    (∃ v, v = x.link ∧ r = .dv (.int .i64 v)) ∧ m = [] := by
  refine CallOK.drop (fn_walk mixed fn_ref25_link fun A P hA hP Q hQ => ?_)
  cbv
  refine call_pure hP code_ref01_Add (ok_ref01_Add _ _) (by cbv; all_goals trivial) ?_
  rintro r ⟨v, hv, rfl⟩
  cbv
  subst hQ hA
  exact ⟨.dv (.int .i64 v), rfl, _, hv, rfl⟩

end Go.Proofs.Ytophlodlencgiaa
