/-
  Walks: of which channel a word is.
-/
import Derived.Test.YtophlodlencgiaaDoorFFoeB
namespace Go.Proofs.YtophlodlencgiaaDoor
open Go.V

/-- The channel of a number. -/
def fromI (c q : Int) : Int := q / (c - 1)
def toI (c q : Int) : Int := if q / (c - 1) ≤ q % (c - 1) then q % (c - 1) + 1 else q % (c - 1)

set_option maxHeartbeats 8000000 in
theorem ok_Where (c r b addr : Int) : CallOK (O := Ob) PR n_plot_Where [.agg [.dv (.int .i64 c), .dv (.int .i64 r), .dv (.int .i64 b)], .dv (.int .i64 addr)] [] fun x m =>
    (∃ f t u v w ok, ok = decide (0 ≤ addr ∧ addr < wordsI c r b) ∧ (ok = true → f = fromI c (addr / sizeI r) ∧ t = toI c (addr / sizeI r)) ∧
      x = .tup [.agg [.dv (.int .i64 f), .dv (.int .i64 t), .dv (.int .i64 u), .dv (.int .i64 v), .dv (.int .i64 w)], .dv (.bool ok)]) ∧ m = [] := by
  refine CallOK.drop (fn_walk mixed fn_plot_Where fun A P hA hP Q hQ => ?_)
  cbv
  refine bc_split (fun h1 => ?_) (fun h1 => ?_)
  · cbv
    have f1 : addr < 0 := by subst hA; simpa using h1
    subst hQ hA
    exact ⟨.tup [.agg [.dv (.int .i64 _), .dv (.int .i64 _), .dv (.int .i64 _), .dv (.int .i64 _), .dv (.int .i64 _)], .dv (.bool false)], rfl, _, _, _, _, _, false, by symm; simp only [decide_eq_false_iff_not]; omega, by simp, rfl⟩
  have f1 : ¬ addr < 0 := by subst hA; simpa using h1
  cbv
  refine call_pure hP code_plot_Words (ok_Words c r b) (by cbv; all_goals simp) ?_
  rintro _ ⟨w, hw, rfl⟩
  cbv
  refine bc_split (fun h2 => ?_) (fun h2 => ?_)
  · cbv
    have f2 : w ≤ addr := by subst hA; simpa using h2
    subst hQ hA
    exact ⟨.tup [.agg [.dv (.int .i64 _), .dv (.int .i64 _), .dv (.int .i64 _), .dv (.int .i64 _), .dv (.int .i64 _)], .dv (.bool false)], rfl, _, _, _, _, _, false, by symm; simp only [decide_eq_false_iff_not]; omega, by simp, rfl⟩
  have f2 : addr < w := by subst hA; simp at h2; omega
  have hr : rightC c r b = true := by
    by_cases h : rightC c r b = true
    · exact h
    · rw [wordsI, if_neg h] at hw; omega
  obtain ⟨v1, v2, _⟩ := right_vals hr
  have hok : true = decide (0 ≤ addr ∧ addr < wordsI c r b) := by
    symm; rw [decide_eq_true_eq, ← hw]; omega
  have wb := words_bounds v1 v2
  rw [wordsI, if_pos hr] at hw
  have sb := size_bounds v2
  cbv
  refine call_pure hP code_plot_Size (ok_Size r) (by cbv; all_goals trivial) ?_
  rintro _ ⟨s, hs, rfl⟩
  rw [← hs] at hw wb sb
  have hq : A.bin .quo .i64 addr s = addr / s ∧ 0 ≤ addr / s ∧ addr / s ≤ 39648 := by
    subst hA
    have h0 : 0 ≤ addr / s := Int.ediv_nonneg (by omega) (by omega)
    have h3 : addr / s ≤ addr := Int.ediv_le_self _ (by omega)
    rw [std_quo, Int.tdiv_eq_ediv_of_nonneg (by omega), w64_in (by omega)]
    omega
  have hc1 : A.bin .sub .i64 c 1 = c - 1 := by subst hA; simp only [std_sub]; rw [w64_in (by omega)]
  have hf : A.bin .quo .i64 (A.bin .quo .i64 addr s) (A.bin .sub .i64 c 1) = fromI c (addr / s) ∧ 0 ≤ fromI c (addr / s) ∧ fromI c (addr / s) ≤ 39648 := by
    rw [hq.1, hc1]
    subst hA
    have h0 : 0 ≤ addr / s / (c - 1) := Int.ediv_nonneg (by omega) (by omega)
    have h3 : addr / s / (c - 1) ≤ addr / s := Int.ediv_le_self _ (by omega)
    rw [std_quo, Int.tdiv_eq_ediv_of_nonneg (by omega), w64_in (by omega)]
    unfold fromI
    omega
  have hg : A.bin .rem .i64 (A.bin .quo .i64 addr s) (A.bin .sub .i64 c 1) = addr / s % (c - 1) ∧ 0 ≤ addr / s % (c - 1) ∧ addr / s % (c - 1) < 8 := by
    rw [hq.1, hc1]
    subst hA
    have h0 := Int.emod_nonneg (addr / s) (show c - 1 ≠ 0 by omega)
    have h3 := Int.emod_lt_of_pos (addr / s) (show 0 < c - 1 by omega)
    rw [std_rem, Int.tmod_eq_emod_of_nonneg (by omega)]
    omega
  have hg1 : A.bin .add .i64 (A.bin .rem .i64 (A.bin .quo .i64 addr s) (A.bin .sub .i64 c 1)) 1 = addr / s % (c - 1) + 1 := by
    rw [hg.1]; subst hA; simp only [std_add]; rw [w64_in (by omega)]
  have hs0 : s ≠ 0 := by omega
  have hc0 : c - 1 ≠ 0 := by omega
  have hr0 : r ≠ 0 := by have := ring_vals v2; omega
  have hF : A.bin .quo .i64 (A.bin .quo .i64 addr s) (A.bin .sub .i64 c 1) = fromI c (addr / sizeI r) := by rw [← hs]; exact hf.1
  cbv
  refine ⟨by subst hA; exact hs0, ?_⟩
  cbv
  refine call_pure hP code_plot_Size (ok_Size r) (by cbv; all_goals trivial) ?_
  rintro _ ⟨s2, hs2, rfl⟩
  obtain rfl : s2 = s := hs2.trans hs.symm
  cbv
  refine ⟨by subst hA; exact hs0, ?_⟩
  cbv
  refine ⟨by subst hA; show std.bin .sub .i64 c 1 ≠ 0; rw [hc1]; exact hc0, ?_⟩
  cbv
  refine ⟨by subst hA; show std.bin .sub .i64 c 1 ≠ 0; rw [hc1]; exact hc0, ?_⟩
  cbv
  refine bc_split (fun h4 => ?_) (fun h4 => ?_)
  · have hT : A.bin .add .i64 (A.bin .rem .i64 (A.bin .quo .i64 addr s2) (A.bin .sub .i64 c 1)) 1 = toI c (addr / sizeI r) := by
      have h4 : A.cmp .geq (A.bin .rem .i64 (A.bin .quo .i64 addr s2) (A.bin .sub .i64 c 1)) (A.bin .quo .i64 (A.bin .quo .i64 addr s2) (A.bin .sub .i64 c 1)) = true := h4
      rw [hg.1, hf.1] at h4
      rw [hg1, ← hs]
      subst hA
      have h4 : fromI c (addr / s2) ≤ addr / s2 % (c - 1) := by simpa using h4
      rw [toI, if_pos (show addr / s2 / (c - 1) ≤ addr / s2 % (c - 1) from h4)]
    cbv
    refine bc_split (fun h5 => ?_) (fun h5 => ?_)
    · cbv
      subst hQ hA
      exact ⟨.tup [.agg [.dv (.int .i64 _), .dv (.int .i64 _), .dv (.int .i64 _), .dv (.int .i64 _), .dv (.int .i64 _)], .dv (.bool true)], rfl, _, _, _, _, _, true, hok, fun _ => ⟨hF, hT⟩, rfl⟩
    cbv
    refine ⟨by subst hA; exact hr0, ?_⟩
    cbv
    refine ⟨by subst hA; simp, fun k hk hk2 => ?_⟩
    obtain rfl : k = 8 := by subst hA; simpa using hk
    clear hk hk2
    cbv
    refine bc_split (fun h6 => ?_) (fun h6 => ?_)
    · cbv
      refine ⟨by subst hA; exact hr0, ?_⟩
      cbv
      subst hQ hA
      exact ⟨.tup [.agg [.dv (.int .i64 _), .dv (.int .i64 _), .dv (.int .i64 _), .dv (.int .i64 _), .dv (.int .i64 _)], .dv (.bool true)], rfl, _, _, _, _, _, true, hok, fun _ => ⟨hF, hT⟩, rfl⟩
    cbv
    refine ⟨by subst hA; simp, fun k hk hk2 => ?_⟩
    obtain rfl : k = 8 := by subst hA; simpa using hk
    clear hk hk2
    cbv
    refine ⟨by subst hA; show (8 : Int) ≠ 0; decide, ?_⟩
    cbv
    refine ⟨by subst hA; show (8 : Int) ≠ 0; decide, ?_⟩
    cbv
    subst hQ hA
    exact ⟨.tup [.agg [.dv (.int .i64 _), .dv (.int .i64 _), .dv (.int .i64 _), .dv (.int .i64 _), .dv (.int .i64 _)], .dv (.bool true)], rfl, _, _, _, _, _, true, hok, fun _ => ⟨hF, hT⟩, rfl⟩
  · have hT : A.bin .rem .i64 (A.bin .quo .i64 addr s2) (A.bin .sub .i64 c 1) = toI c (addr / sizeI r) := by
      have h4 : A.cmp .geq (A.bin .rem .i64 (A.bin .quo .i64 addr s2) (A.bin .sub .i64 c 1)) (A.bin .quo .i64 (A.bin .quo .i64 addr s2) (A.bin .sub .i64 c 1)) = false := h4
      rw [hg.1, hf.1] at h4
      rw [hg.1, ← hs]
      subst hA
      have h4 : ¬ fromI c (addr / s2) ≤ addr / s2 % (c - 1) := by simpa using h4
      rw [toI, if_neg (show ¬ addr / s2 / (c - 1) ≤ addr / s2 % (c - 1) from h4)]
    cbv
    refine bc_split (fun h5 => ?_) (fun h5 => ?_)
    · cbv
      subst hQ hA
      exact ⟨.tup [.agg [.dv (.int .i64 _), .dv (.int .i64 _), .dv (.int .i64 _), .dv (.int .i64 _), .dv (.int .i64 _)], .dv (.bool true)], rfl, _, _, _, _, _, true, hok, fun _ => ⟨hF, hT⟩, rfl⟩
    cbv
    refine ⟨by subst hA; exact hr0, ?_⟩
    cbv
    refine ⟨by subst hA; simp, fun k hk hk2 => ?_⟩
    obtain rfl : k = 8 := by subst hA; simpa using hk
    clear hk hk2
    cbv
    refine bc_split (fun h6 => ?_) (fun h6 => ?_)
    · cbv
      refine ⟨by subst hA; exact hr0, ?_⟩
      cbv
      subst hQ hA
      exact ⟨.tup [.agg [.dv (.int .i64 _), .dv (.int .i64 _), .dv (.int .i64 _), .dv (.int .i64 _), .dv (.int .i64 _)], .dv (.bool true)], rfl, _, _, _, _, _, true, hok, fun _ => ⟨hF, hT⟩, rfl⟩
    cbv
    refine ⟨by subst hA; simp, fun k hk hk2 => ?_⟩
    obtain rfl : k = 8 := by subst hA; simpa using hk
    clear hk hk2
    cbv
    refine ⟨by subst hA; show (8 : Int) ≠ 0; decide, ?_⟩
    cbv
    refine ⟨by subst hA; show (8 : Int) ≠ 0; decide, ?_⟩
    cbv
    subst hQ hA
    exact ⟨.tup [.agg [.dv (.int .i64 _), .dv (.int .i64 _), .dv (.int .i64 _), .dv (.int .i64 _), .dv (.int .i64 _)], .dv (.bool true)], rfl, _, _, _, _, _, true, hok, fun _ => ⟨hF, hT⟩, rfl⟩

end Go.Proofs.YtophlodlencgiaaDoor
