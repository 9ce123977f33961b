/-
  Walks: whose words, which channels.
-/
import Derived.Test.YtophlodlencgiaaDoorFFoeC
namespace Go.Proofs.YtophlodlencgiaaDoor
open Go.V

/-- Is a word of one of a core's own channels? -/
def mineI (c r b core addr : Int) : Bool :=
  hasI c r b core && decide (0 ≤ addr ∧ addr < wordsI c r b) && (decide (fromI c (addr / sizeI r) = core) || decide (toI c (addr / sizeI r) = core))

theorem ok_Mine (c r b core addr : Int) : CallOK (O := Ob) PR n_foe_Mine [.agg [.dv (.int .i64 c), .dv (.int .i64 r), .dv (.int .i64 b)], .dv (.int .i64 core), .dv (.int .i64 addr)] [] fun x m => (∃ v, v = mineI c r b core addr ∧ x = .dv (.bool v)) ∧ m = [] := by
  refine CallOK.drop (fn_walk mixed fn_foe_Mine fun A P hA hP Q hQ => ?_)
  cbv
  refine call_pure hP code_plot_Where (ok_Where c r b addr) (by cbv; all_goals simp) ?_
  rintro _ ⟨f, t, u, v, w, ok, hok, hft, rfl⟩
  cbv
  refine bc_split (fun h1 => ?_) (fun h1 => ?_)
  · obtain ⟨hf, ht⟩ := hft h1
    cbv
    refine call_pure hP code_foe_has (ok_has c r b core) (by cbv; all_goals simp) ?_
    rintro _ ⟨ha, hha, rfl⟩
    cbv
    refine bc_split (fun h2 => ?_) (fun h2 => ?_)
    · cbv
      refine bc_split (fun h3 => ?_) (fun h3 => ?_)
      · cbv
        have f3 : f = core := by subst hA; simpa using h3
        subst hQ hA
        refine ⟨.dv (.bool true), rfl, true, ?_, rfl⟩
        rw [mineI, ← hha, h2, ← hok, h1, ← hf, decide_eq_true f3]; rfl
      · cbv
        have f3 : ¬ f = core := by subst hA; simpa using h3
        subst hQ hA
        refine ⟨.dv (.bool (std.cmp .eql t core)), rfl, _, ?_, rfl⟩
        rw [mineI, ← hha, h2, ← hok, h1, ← hf, ← ht, decide_eq_false f3]; simp
    · cbv
      subst hQ hA
      refine ⟨.dv (.bool false), rfl, false, ?_, rfl⟩
      rw [mineI, ← hha, h2]; rfl
  · cbv
    subst hQ hA
    refine ⟨.dv (.bool false), rfl, false, ?_, rfl⟩
    rw [mineI, ← hok, h1]; simp

def ofI (c r b from_ to_ : Int) : Bool := rightC c r b && decide (0 ≤ from_ ∧ from_ < c ∧ 0 ≤ to_ ∧ to_ < c ∧ from_ ≠ to_)

set_option maxHeartbeats 4000000 in
theorem ok_Of (c r b f t : Int) : CallOK (O := Ob) PR n_plot_Of [.agg [.dv (.int .i64 c), .dv (.int .i64 r), .dv (.int .i64 b)], .dv (.int .i64 f), .dv (.int .i64 t)] [] fun x m =>
    (∃ p q ok, ok = ofI c r b f t ∧ x = .tup [.agg [.dv (.int .i64 p), .dv (.int .i64 q)], .dv (.bool ok)]) ∧ m = [] := by
  refine CallOK.drop (fn_walk mixed fn_plot_Of fun A P hA hP Q hQ => ?_)
  cbv
  refine call_pure hP code_plot_Right (ok_Right c r b) (by cbv; all_goals simp) ?_
  rintro _ ⟨ro, hro, rfl⟩
  cbv
  refine bc_split (fun h1 => ?_) (fun h1 => ?_)
  · cbv
    have f1 : ro = false := by subst hA; simpa [std] using h1
    subst hQ hA
    exact ⟨.tup [.agg [.dv (.int .i64 _), .dv (.int .i64 _)], .dv (.bool false)], rfl, _, _, false, by rw [ofI, ← hro, f1]; rfl, rfl⟩
  have f1 : rightC c r b = true := by rw [← hro]; subst hA; simpa [std] using h1
  cbv
  refine bc_split (fun h2 => ?_) (fun h2 => ?_)
  · cbv
    have f2 : f < 0 := by subst hA; simpa using h2
    subst hQ hA
    exact ⟨.tup [.agg [.dv (.int .i64 _), .dv (.int .i64 _)], .dv (.bool false)], rfl, _, _, false, by rw [ofI, decide_eq_false (by omega)]; simp, rfl⟩
  have f2 : ¬ f < 0 := by subst hA; simpa using h2
  cbv
  refine bc_split (fun h3 => ?_) (fun h3 => ?_)
  · cbv
    have f3 : c ≤ f := by subst hA; simpa using h3
    subst hQ hA
    exact ⟨.tup [.agg [.dv (.int .i64 _), .dv (.int .i64 _)], .dv (.bool false)], rfl, _, _, false, by rw [ofI, decide_eq_false (by omega)]; simp, rfl⟩
  have f3 : ¬ c ≤ f := by subst hA; simpa using h3
  cbv
  refine bc_split (fun h4 => ?_) (fun h4 => ?_)
  · cbv
    have f4 : t < 0 := by subst hA; simpa using h4
    subst hQ hA
    exact ⟨.tup [.agg [.dv (.int .i64 _), .dv (.int .i64 _)], .dv (.bool false)], rfl, _, _, false, by rw [ofI, decide_eq_false (by omega)]; simp, rfl⟩
  have f4 : ¬ t < 0 := by subst hA; simpa using h4
  cbv
  refine bc_split (fun h5 => ?_) (fun h5 => ?_)
  · cbv
    have f5 : c ≤ t := by subst hA; simpa using h5
    subst hQ hA
    exact ⟨.tup [.agg [.dv (.int .i64 _), .dv (.int .i64 _)], .dv (.bool false)], rfl, _, _, false, by rw [ofI, decide_eq_false (by omega)]; simp, rfl⟩
  have f5 : ¬ c ≤ t := by subst hA; simpa using h5
  cbv
  refine bc_split (fun h6 => ?_) (fun h6 => ?_)
  · cbv
    have f6 : f = t := by subst hA; simpa using h6
    subst hQ hA
    exact ⟨.tup [.agg [.dv (.int .i64 _), .dv (.int .i64 _)], .dv (.bool false)], rfl, _, _, false, by rw [ofI, decide_eq_false (by omega)]; simp, rfl⟩
  have f6 : ¬ f = t := by subst hA; simpa using h6
  have hfin : true = ofI c r b f t := by
    rw [ofI, f1, decide_eq_true (by omega)]; rfl
  cbv
  refine bc_split (fun h7 => ?_) (fun h7 => ?_)
  · cbv
    refine call_pure hP code_plot_Size (ok_Size r) (by cbv; all_goals trivial) ?_
    rintro _ ⟨s, hs, rfl⟩
    cbv
    subst hQ hA
    exact ⟨.tup [.agg [.dv (.int .i64 _), .dv (.int .i64 _)], .dv (.bool true)], rfl, _, _, true, hfin, rfl⟩
  · cbv
    refine call_pure hP code_plot_Size (ok_Size r) (by cbv; all_goals trivial) ?_
    rintro _ ⟨s, hs, rfl⟩
    cbv
    subst hQ hA
    exact ⟨.tup [.agg [.dv (.int .i64 _), .dv (.int .i64 _)], .dv (.bool true)], rfl, _, _, true, hfin, rfl⟩

def honestI (c r b core f t : Int) : Bool := ofI c r b f t && hasI c r b core && decide (f ≠ core) && decide (t ≠ core)

theorem ok_Honest (c r b core f t : Int) : CallOK (O := Ob) PR n_foe_Honest [.agg [.dv (.int .i64 c), .dv (.int .i64 r), .dv (.int .i64 b)], .dv (.int .i64 core), .dv (.int .i64 f), .dv (.int .i64 t)] [] fun x m => (∃ v, v = honestI c r b core f t ∧ x = .dv (.bool v)) ∧ m = [] := by
  refine CallOK.drop (fn_walk mixed fn_foe_Honest fun A P hA hP Q hQ => ?_)
  cbv
  refine call_pure hP code_plot_Of (ok_Of c r b f t) (by cbv; all_goals simp) ?_
  rintro _ ⟨p, q, ok, hok, rfl⟩
  cbv
  refine bc_split (fun h1 => ?_) (fun h1 => ?_)
  · cbv
    refine call_pure hP code_foe_has (ok_has c r b core) (by cbv; all_goals simp) ?_
    rintro _ ⟨ha, hha, rfl⟩
    cbv
    refine bc_split (fun h2 => ?_) (fun h2 => ?_)
    · cbv
      refine bc_split (fun h3 => ?_) (fun h3 => ?_)
      · cbv
        have f3 : f ≠ core := by subst hA; simpa using h3
        subst hQ hA
        refine ⟨.dv (.bool (std.cmp .neq t core)), rfl, _, ?_, rfl⟩
        rw [honestI, ← hok, h1, ← hha, h2, decide_eq_true f3]; simp
      · cbv
        have f3 : ¬ f ≠ core := by subst hA; simpa using h3
        subst hQ hA
        refine ⟨.dv (.bool false), rfl, false, ?_, rfl⟩
        rw [honestI, decide_eq_false f3]; simp
    · cbv
      subst hQ hA
      refine ⟨.dv (.bool false), rfl, false, ?_, rfl⟩
      rw [honestI, ← hha, h2]; simp
  · cbv
    subst hQ hA
    refine ⟨.dv (.bool false), rfl, false, ?_, rfl⟩
    rw [honestI, ← hok, h1]; simp

end Go.Proofs.YtophlodlencgiaaDoor
