/-
  Walks: clones of words.
-/
import Derived.Test.YtophlodlencgiaaDoorDiaM
namespace Go.Proofs.YtophlodlencgiaaDoor
open Go.V

theorem ok_Clone_ints (n : Nat) (g : Nat → Nat → DV) (hb : n * 8 ≤ 140737488355328) : CallOK (O := Ob) PR n_slices_Clone_Sint_int [.dv (.seq n 1 g)] [] fun r m => r = .dv (.seq n 1 g) ∧ m = [] := by
  refine fn_walk2 mixed fn_slices_Clone_Sint_int (Ent.refl _ _) fun A P hA hP Q hQ => ?_
  cbv
  intro b hb
  refine bc_split (fun h1 => ?_) (fun h1 => ?_)
  · cbv
    subst hQ hA
    obtain rfl : n = 0 := by
      rcases Nat.eq_zero_or_pos n with h | h
      · exact h
      · have := hb (by simpa using h)
        subst this; cases h1
    exact ⟨_, _, Ent.weak1 (.dv (.nil 1 g)), rfl, rfl⟩
  · cbv
    refine ⟨by subst hA; simp [maxN]; omega, ?_⟩
    cbv
    subst hQ hA
    refine ⟨.dv (.seq n 1 g), [], (Ent.frz (m := 0 + n) 1 g rfl fun i f _ _ => rfl).trans (Ent.none_ ?_), rfl, rfl⟩
    show SV.dv (.seq (0 + n) 1 g) = _
    rw [Nat.zero_add]
    rfl


end Go.Proofs.YtophlodlencgiaaDoor
