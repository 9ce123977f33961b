/-
  Walks: what a foe is allowed.
-/
import Derived.Test.YtophlodlencgiaaDoorFFoeE
namespace Go.Proofs.YtophlodlencgiaaDoor
open Go.V

/-- Is an event of a kind, by a core, at an address, allowed? -/
def allowI (c r b core kd co at_ : Int) : Bool :=
  hasI c r b core && decide (kd ≠ 6 ∧ kd ≠ 7) && (decide (kd ≠ 8) || (decide (co = core) && (mineI c r b core at_ || ringsI c at_)))

theorem ok_c1 (kd co pe ha at_ wd : Int) (n : Nat) (g : Nat → Nat → DV) : CallOK (O := Ob) PR n_foe_allowed_c1 [.agg [.dv (.int .i64 kd), .dv (.int .i64 co), .dv (.int .i64 pe), .dv (.int .i64 ha), .dv (.seq n 1 g), .dv (.int .i64 at_), .dv (.int .i64 wd)]] [] fun x m => x = .dv (.bool false) ∧ m = [] := by
  refine CallOK.drop (fn_walk mixed fn_foe_allowed_c1 fun A P hA hP Q hQ => ?_)
  cbv
  subst hQ hA
  exact ⟨.dv (.bool false), rfl, rfl⟩

def fmem (c r b core : Int) : List (Chunk Ob) := [.blk [.one (.dv (.int .i64 c)), .one (.dv (.int .i64 r)), .one (.dv (.int .i64 b))], .blk [.one (.dv (.int .i64 core))]]

set_option maxHeartbeats 4000000 in
theorem ok_c2 (c r b core kd co pe ha at_ wd : Int) (n : Nat) (g : Nat → Nat → DV) (hh : hasI c r b core = true) (hlo : -9223372036854775808 ≤ at_ ∧ at_ ≤ 9223372036854775807) :
    CallOK (O := Ob) PR n_foe_allowed_c2 [.agg [.dv (.int .i64 kd), .dv (.int .i64 co), .dv (.int .i64 pe), .dv (.int .i64 ha), .dv (.seq n 1 g), .dv (.int .i64 at_), .dv (.int .i64 wd)], .ptr 1 0, .ptr 0 0] (fmem c r b core) fun x m =>
      (∃ v, v = allowI c r b core kd co at_ ∧ x = .dv (.bool v)) ∧ m = fmem c r b core := by
  have hr : rightC c r b = true := by simp only [hasI, Bool.and_eq_true] at hh; exact hh.1
  refine fn_walk2 mixed fn_foe_allowed_c2 (Ent.refl _ _) fun A P hA hP Q hQ => ?_
  have fin : ∀ (v : Bool) (env : List SV) (ch : Chunk Ob), v = allowI c r b core kd co at_ → Q (.dv (.bool v)) [.blk [.one (.dv (.int .i64 c)), .one (.dv (.int .i64 r)), .one (.dv (.int .i64 b))], .blk [.one (.dv (.int .i64 core))], ch] := by
    intro v env ch hv
    subst hQ
    exact ⟨.dv (.bool v), fmem c r b core, Ent.ren [0, 1] rfl rfl ⟨⟨rfl, rfl, rfl, trivial⟩, ⟨rfl, trivial⟩, trivial⟩ ⟨rfl, trivial⟩, ⟨v, hv, rfl⟩, rfl⟩
  cbv
  refine bc_split (fun h1 => ?_) (fun h1 => ?_)
  · have k6 : kd = 6 := by subst hA; simpa using h1
    cbv
    refine bc_true (by subst hA; simp [k6]) ?_
    cbv
    exact fin false [] _ (by rw [allowI]; simp [k6])
  have k6 : kd ≠ 6 := by subst hA; simpa using h1
  cbv
  refine bc_split (fun h2 => ?_) (fun h2 => ?_)
  · have k7 : kd = 7 := by subst hA; simpa using h2
    cbv
    exact fin false [] _ (by rw [allowI]; simp [k7])
  have k7 : kd ≠ 7 := by subst hA; simpa using h2
  cbv
  refine bc_split (fun h3 => ?_) (fun h3 => ?_)
  · have k8 : kd = 8 := by subst hA; simpa using h3
    cbv
    refine bc_split (fun h4 => ?_) (fun h4 => ?_)
    · have f4 : co = core := by subst hA; simpa using h4
      cbv
      refine call_pure hP code_foe_Mine (ok_Mine c r b core at_) (by cbv; all_goals simp) ?_
      rintro _ ⟨mi, hmi, rfl⟩
      cbv
      refine bc_split (fun h5 => ?_) (fun h5 => ?_)
      · cbv
        exact fin true [] _ (by rw [allowI, hh, ← hmi, h5]; simp [k8, f4])
      · cbv
        refine call_pure hP code_foe_rings (ok_rings c r b at_ hr hlo) (by cbv; all_goals simp) ?_
        rintro _ ⟨ri, hri, rfl⟩
        cbv
        exact fin ri [] _ (by rw [allowI, hh, ← hmi, h5, ← hri]; simp [k8, f4])
    · have f4 : ¬ co = core := by subst hA; simpa using h4
      cbv
      exact fin false [] _ (by rw [allowI]; simp [k8, f4])
  · have k8 : kd ≠ 8 := by subst hA; simpa using h3
    cbv
    exact fin true [] _ (by rw [allowI, hh]; simp [k6, k7, k8])

theorem ok_allowed (c r b core : Int) : CallOK (O := Ob) PR n_foe_allowed [.agg [.dv (.int .i64 c), .dv (.int .i64 r), .dv (.int .i64 b)], .dv (.int .i64 core)] [] fun x m =>
    (hasI c r b core = false ∧ x = .fn n_foe_allowed_c1 [] ∧ m = []) ∨ (hasI c r b core = true ∧ x = .fn n_foe_allowed_c2 [.ptr 1 0, .ptr 0 0] ∧ m = fmem c r b core) := by
  refine fn_walk2 mixed fn_foe_allowed (Ent.refl _ _) fun A P hA hP Q hQ => ?_
  cbv
  refine call_pure hP code_foe_has (ok_has c r b core) (by cbv; all_goals simp) ?_
  rintro _ ⟨ha, hha, rfl⟩
  cbv
  refine bc_split (fun h1 => ?_) (fun h1 => ?_)
  · have f1 : ha = false := by subst hA; simpa [std] using h1
    cbv
    subst hQ hA
    exact ⟨.fn n_foe_allowed_c1 [], [], Ent.ren [] rfl rfl trivial ⟨rfl, trivial⟩, .inl ⟨by rw [← hha, f1], rfl, rfl⟩⟩
  · have f1 : ha = true := by subst hA; simpa [std] using h1
    cbv
    subst hQ hA
    exact ⟨.fn n_foe_allowed_c2 [.ptr 1 0, .ptr 0 0], fmem c r b core, Ent.ren [0, 1] rfl rfl ⟨⟨rfl, rfl, rfl, trivial⟩, ⟨rfl, trivial⟩, trivial⟩ ⟨rfl, trivial⟩, .inr ⟨by rw [← hha, f1], rfl, rfl⟩⟩

set_option maxHeartbeats 4000000 in
theorem ok_Allowed (c r b core kd co pe ha at_ wd : Int) (n : Nat) (g : Nat → Nat → DV) (hlo : -9223372036854775808 ≤ at_ ∧ at_ ≤ 9223372036854775807) :
    CallOK (O := Ob) PR n_foe_Allowed [.agg [.dv (.int .i64 c), .dv (.int .i64 r), .dv (.int .i64 b)], .dv (.int .i64 core), .agg [.dv (.int .i64 kd), .dv (.int .i64 co), .dv (.int .i64 pe), .dv (.int .i64 ha), .dv (.seq n 1 g), .dv (.int .i64 at_), .dv (.int .i64 wd)]] [] fun x m =>
      (∃ v, v = allowI c r b core kd co at_ ∧ x = .dv (.bool v)) ∧ m = [] := by
  refine CallOK.drop (fn_walk mixed fn_foe_Allowed fun A P hA hP Q hQ => ?_)
  cbv
  refine call_at hP [] code_foe_allowed (ok_allowed c r b core) rfl trivial (by cbv; all_goals simp) ?_
  rintro x m h _
  rcases h with ⟨hh, rfl, rfl⟩ | ⟨hh, rfl, rfl⟩
  · cbv
    refine call_pure hP code_foe_allowed_c1 (ok_c1 kd co pe ha at_ wd n g) (by cbv; all_goals simp) ?_
    rintro _ rfl
    cbv
    subst hQ hA
    exact ⟨.dv (.bool false), rfl, false, by rw [allowI, hh]; rfl, rfl⟩
  · cbv
    refine call_at hP [2, 3] code_foe_allowed_c2 (ok_c2 c r b core kd co pe ha at_ wd n g hh hlo) rfl ⟨⟨rfl, rfl, rfl, trivial⟩, ⟨rfl, trivial⟩, trivial⟩ ⟨rfl, rfl, rfl, trivial⟩ ?_
    rintro _ m ⟨⟨v, hv, rfl⟩, rfl⟩ _
    cbv
    subst hQ hA
    exact ⟨.dv (.bool v), rfl, v, hv, rfl⟩

end Go.Proofs.YtophlodlencgiaaDoor
