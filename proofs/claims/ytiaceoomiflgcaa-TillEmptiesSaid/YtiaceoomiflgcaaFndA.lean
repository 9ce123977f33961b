/-
  Walks: the parts of a cell.
-/
import Derived.Test.YtiaceoomiflgcaaSeIr
import Derived.Test.YtiaceoomiflgcaaVceG
namespace Go.Proofs.Ytiaceoomiflgcaa
open Go.V

set_option maxHeartbeats 1000000 in
theorem ok_part (f : Nat) (p : Int) (h : partO f = some p) : CallOK (O := Ob) PR n_cell_part [.dv (.flt .f64 f)] [] fun r m => r = .dv (.int .i64 p) ∧ m = [] := by
  refine CallOK.drop (fn_walk mixed fn_cell_part fun A P hA hP Q hQ => ?_)
  cbv
  refine ⟨by subst hA; trivial, ?_⟩
  cbv
  refine bc_split (fun h1 => ?_) (fun h1 => ?_)
  · have g1 : fcmpF .geq .f64 f 0 = true := by subst hA; exact h1
    cbv
    refine ⟨by subst hA; trivial, ?_⟩
    cbv
    refine bc_split (fun h2 => ?_) (fun h2 => ?_)
    · have g2 : fcmpF .leq .f64 f 4679239875398991872 = true := by subst hA; exact h2
      rw [partO, g1, g2] at h
      simp only at h
      split at h
      · rename_i n en
        split at h
        · rename_i hb
          simp only [Bool.and_eq_true, decide_eq_true_eq] at hb
          have hc : puC (.f2i .i64) [.flt .f64 f] := ⟨n, en, hb⟩
          cbv
          refine ⟨by subst hA; exact hc, ?_⟩
          cbv
          refine ⟨by subst hA; trivial, ?_⟩
          cbv
          refine ⟨by subst hA; trivial, ?_⟩
          cbv
          refine bc_split (fun h3 => ?_) (fun h3 => ?_)
          · have g3 : fcmpF .eql .f64 (FloatKind.f64.nearest ((f2iF .f64 f).getD 0)) f = true := by subst hA; exact h3
            rw [en] at g3
            simp only [Option.getD_some] at g3
            rw [g3] at h
            simp only [Option.some.injEq] at h
            subst h
            cbv
            refine ⟨by subst hA; exact hc, ?_⟩
            cbv
            subst hQ hA
            exact ⟨.dv (.int .i64 ((f2iF .f64 f).getD 0)), by rfl, by rw [en]; rfl⟩
          · have g3 : fcmpF .eql .f64 (FloatKind.f64.nearest ((f2iF .f64 f).getD 0)) f = false := by subst hA; exact h3
            rw [en] at g3
            simp only [Option.getD_some] at g3
            rw [g3] at h
            simp only [Option.some.injEq] at h
            subst h
            cbv
            subst hQ
            exact ⟨.dv (.int .i64 (-1)), by rfl, rfl⟩
        · cases h
      · cases h
    · have g2 : fcmpF .leq .f64 f 4679239875398991872 = false := by subst hA; exact h2
      rw [partO, g1, g2] at h
      simp only [Option.some.injEq] at h
      subst h
      cbv
      subst hQ
      exact ⟨.dv (.int .i64 (-1)), by rfl, rfl⟩
  · have g1 : fcmpF .geq .f64 f 0 = false := by subst hA; exact h1
    rw [partO, g1] at h
    simp only [Option.some.injEq] at h
    subst h
    cbv
    subst hQ
    exact ⟨.dv (.int .i64 (-1)), by rfl, rfl⟩

def partsSV : Option (Int × Int) → SV
  | some (a, w) => .tup [.dv (.int .i64 a), .dv (.int .i64 w), .dv (.bool true)]
  | none => .tup [.dv (.int .i64 0), .dv (.int .i64 0), .dv (.bool false)]

set_option maxHeartbeats 1000000 in
theorem ok_Parts (c : Nat × Nat) (p : Option (Int × Int)) (h : partsO c = some p) : CallOK (O := Ob) PR n_cell_Parts [.dv (.cpx .f64 c.1 c.2)] [] fun r m => r = partsSV p ∧ m = [] := by
  obtain ⟨u, v⟩ := c
  simp only [partsO] at h
  split at h
  · rename_i a w ea ew
    refine CallOK.drop (fn_walk mixed fn_cell_Parts fun A P hA hP Q hQ => ?_)
    cbv
    refine call_pure hP code_cell_part (ok_part u a ea) (by cbv; all_goals simp) ?_
    rintro _ rfl
    cbv
    refine call_pure hP code_cell_part (ok_part v w ew) (by cbv; all_goals simp) ?_
    rintro _ rfl
    cbv
    refine bc_split (fun h1 => ?_) (fun h1 => ?_)
    · have g1 : decide (a < 0) = true := by subst hA; exact h1
      rw [g1] at h
      simp only [Bool.true_or, Option.some.injEq] at h
      subst h
      cbv
      subst hQ
      exact ⟨_, by trivial, rfl⟩
    · have g1 : decide (a < 0) = false := by subst hA; exact h1
      rw [g1] at h
      simp only [Bool.false_or] at h
      cbv
      refine bc_split (fun h2 => ?_) (fun h2 => ?_)
      · have g2 : decide (w < 0) = true := by subst hA; exact h2
        rw [g2] at h
        simp only [Option.some.injEq] at h
        subst h
        cbv
        subst hQ
        exact ⟨_, by trivial, rfl⟩
      · have g2 : decide (w < 0) = false := by subst hA; exact h2
        rw [g2] at h
        simp only [Option.some.injEq] at h
        subst h
        cbv
        subst hQ
        exact ⟨_, by trivial, rfl⟩
  · cases h

end Go.Proofs.Ytiaceoomiflgcaa
