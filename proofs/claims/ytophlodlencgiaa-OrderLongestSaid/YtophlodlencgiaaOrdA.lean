/-
  Walks: the library's functions on rows of numbers and of entries.
-/
import Derived.Test.YtophlodlencgiaaOrdL
namespace Go.Proofs.Ytophlodlencgiaa
open Go.V

theorem ok_Equal (n : Nat) (g : Nat → Nat → DV) (x : Nat → Int) (hg : ∀ i, i < n → g i 0 = .int .i64 (x i)) (m : Nat) (h : Nat → Nat → DV) (y : Nat → Int) (hh : ∀ i, i < m → h i 0 = .int .i64 (y i)) :
    CallOK (O := Ob) PR n_slices_Equal_Sint_int [.dv (.seq n 1 g), .dv (.seq m 1 h)] [] fun r k => (∃ v, v = sameW n x m y ∧ r = .dv (.bool v)) ∧ k = [] := by
  refine CallOK.drop (fn_walk mixed fn_slices_Equal_Sint_int fun A P hA hP Q hQ => ?_)
  cbv
  intro hn
  cbv
  intro hm
  cbv
  refine bc_split (fun h1 => ?_) (fun h1 => ?_)
  · cbv
    subst hQ hA
    refine ⟨.dv (.bool false), rfl, false, ?_, rfl⟩
    symm
    rw [← Bool.not_eq_true, sameW_iff]
    rintro ⟨rfl, _⟩
    simp at h1
  · cbv
    obtain rfl : n = m := by subst hA; simp at h1; omega
    intro _
    cbv
    refine loop_at mixed hP hA (fun i : { i : Nat // i ≤ n ∧ ∀ j, j < i → x j = y j } => ⟨envOf 26 [(0, .dv (.seq n 1 g)), (1, .dv (.seq n 1 h)), (12, .dv (.int .i64 (A.ofN n))), (13, .dv (.int .i64 (A.ofN i.1)))], []⟩) (fun i => n - i.1) ⟨0, Nat.zero_le _, fun j hj => absurd hj (Nat.not_lt_zero j)⟩ (Ent.env (by cbv; subst hA; simp)) ?_
    rintro ⟨i, hi, he⟩
    cbv
    refine bc_split (fun h1 => ?_) (fun h1 => ?_)
    · cbv
      have h2 : i < n := by subst hA; simpa using h1
      refine ⟨by subst hA; simp; omega, fun k hk hk2 => ?_⟩
      obtain rfl : k = i := by subst hA; simpa using hk
      have q7 : A.bin .add .i64 (A.ofN k) 1 = A.ofN (k + 1) := by subst hA; simp; have : n ≤ 17592186044416 := hn; rw [w64_in (by omega)]
      cbv
      rw [hg k hk2]
      cbv
      refine ⟨by subst hA; simp; omega, fun l hl hl2 => ?_⟩
      obtain rfl : l = k := by subst hA; simpa using hl
      cbv
      rw [hh l hl2]
      cbv
      refine bc_split (fun h3 => ?_) (fun h3 => ?_)
      · cbv
        subst hQ hA
        refine ⟨.dv (.bool false), rfl, false, ?_, rfl⟩
        symm
        rw [← Bool.not_eq_true, sameW_iff]
        rintro ⟨_, hx⟩
        have := hx l hl2
        simp at h3
        exact h3 this
      · have e3 : x l = y l := by subst hA; simpa using h3
        cbv
        refine ⟨⟨l + 1, h2, below_succ he e3⟩, by simp only; omega, ?_⟩
        show Ent _ _ (⟨envOf 26 [(0, .dv (.seq n 1 g)), (1, .dv (.seq n 1 h)), (12, .dv (.int .i64 (A.ofN n))), (13, .dv (.int .i64 (A.ofN (l + 1))))], []⟩ : St Ob)
        rw [← q7]
        exact Ent.env (by cbv; all_goals trivial)
    · cbv
      have h3 : i = n := by subst hA; simp at h1; omega
      subst hQ hA
      exact ⟨.dv (.bool true), rfl, true, (sameW_iff.2 ⟨rfl, fun j hj => he j (by omega)⟩).symm, rfl⟩

/-- The first place at which something is true; -1: there is none. -/
theorem ok_Index (n : Nat) (g : Nat → Nat → DV) (x : Nat → Int) (hg : ∀ i, i < n → g i 0 = .int .i64 (x i)) (v : Int) :
    CallOK (O := Ob) PR n_slices_Index_Sint_int [.dv (.seq n 1 g), .dv (.int .i64 v)] [] fun r k => (∃ z, (0 ≤ z ↔ ∃ i, i < n ∧ x i = v) ∧ r = .dv (.int .i64 z)) ∧ k = [] := by
  refine CallOK.drop (fn_walk mixed fn_slices_Index_Sint_int fun A P hA hP Q hQ => ?_)
  cbv
  intro hn
  cbv
  refine loop_at mixed hP hA (fun i : { i : Nat // i ≤ n ∧ ∀ j, j < i → ¬ x j = v } => ⟨envOf 19 [(0, .dv (.seq n 1 g)), (1, .dv (.int .i64 v)), (7, .dv (.int .i64 (A.ofN n))), (8, .dv (.int .i64 (A.ofN i.1)))], []⟩) (fun i => n - i.1) ⟨0, Nat.zero_le _, fun j hj => absurd hj (Nat.not_lt_zero j)⟩ (Ent.env (by cbv; subst hA; simp)) ?_
  rintro ⟨i, hi, he⟩
  cbv
  refine bc_split (fun h1 => ?_) (fun h1 => ?_)
  · cbv
    have h2 : i < n := by subst hA; simpa using h1
    refine ⟨by subst hA; simp; omega, fun k hk hk2 => ?_⟩
    obtain rfl : k = i := by subst hA; simpa using hk
    have q7 : A.bin .add .i64 (A.ofN k) 1 = A.ofN (k + 1) := by subst hA; simp; have : n ≤ 17592186044416 := hn; rw [w64_in (by omega)]
    cbv
    rw [hg k hk2]
    cbv
    refine bc_split (fun h3 => ?_) (fun h3 => ?_)
    · cbv
      subst hQ hA
      refine ⟨.dv (.int .i64 (std.ofN k)), rfl, _, ?_, rfl⟩
      simp at h3
      exact ⟨fun _ => ⟨k, hk2, h3.symm⟩, fun _ => by simp⟩
    · have e3 : ¬ x k = v := by subst hA; simp at h3; exact fun h => h3 h.symm
      cbv
      refine ⟨⟨k + 1, h2, below_succ he e3⟩, by simp only; omega, ?_⟩
      show Ent _ _ (⟨envOf 19 [(0, .dv (.seq n 1 g)), (1, .dv (.int .i64 v)), (7, .dv (.int .i64 (A.ofN n))), (8, .dv (.int .i64 (A.ofN (k + 1))))], []⟩ : St Ob)
      rw [← q7]
      exact Ent.env (by cbv; all_goals trivial)
  · cbv
    have h3 : i = n := by subst hA; simp at h1; omega
    subst hQ hA
    refine ⟨.dv (.int .i64 (-1)), rfl, _, ?_, rfl⟩
    constructor
    · intro h; omega
    · rintro ⟨j, hj, hx⟩; exact (he j (by omega) hx).elim

theorem ok_Contains (n : Nat) (g : Nat → Nat → DV) (x : Nat → Int) (hg : ∀ i, i < n → g i 0 = .int .i64 (x i)) (v : Int) :
    CallOK (O := Ob) PR n_slices_Contains_Sint_int [.dv (.seq n 1 g), .dv (.int .i64 v)] [] fun r k => (∃ z, (z = true ↔ ∃ i, i < n ∧ x i = v) ∧ r = .dv (.bool z)) ∧ k = [] := by
  refine CallOK.drop (fn_walk mixed fn_slices_Contains_Sint_int fun A P hA hP Q hQ => ?_)
  cbv
  refine call_pure hP code_slices_Index_Sint_int (ok_Index n g x hg v) (by cbv; all_goals simp) ?_
  rintro _ ⟨z, hz, rfl⟩
  cbv
  subst hQ hA
  exact ⟨.dv (.bool (std.cmp .geq z 0)), rfl, _, by simpa using hz, rfl⟩

end Go.Proofs.Ytophlodlencgiaa
