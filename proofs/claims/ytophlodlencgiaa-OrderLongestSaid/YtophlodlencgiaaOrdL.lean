/-
  Walks: two lists of words are the same.
-/
import Derived.Test.YtophlodlencgiaaOrdM
import Derived.Test.YtophlodlencgiaaTIr
namespace Go.Proofs.Ytophlodlencgiaa
open Go.V

/-- The same words. -/
def sameW (n : Nat) (x : Nat → Int) (m : Nat) (y : Nat → Int) : Bool := decide (n = m) && (List.range n).all fun i => decide (x i = y i)

theorem sameW_iff {n m : Nat} {x y : Nat → Int} : sameW n x m y = true ↔ n = m ∧ ∀ i, i < n → x i = y i := by
  simp [sameW]

theorem ok_Same (n : Nat) (g : Nat → Nat → DV) (x : Nat → Int) (hg : ∀ i, i < n → g i 0 = .int .i64 (x i)) (m : Nat) (h : Nat → Nat → DV) (y : Nat → Int) (hh : ∀ i, i < m → h i 0 = .int .i64 (y i)) :
    CallOK (O := Ob) PR n_ref03_Same [.dv (.seq n 1 g), .dv (.seq m 1 h)] [] fun r k => (∃ v, v = sameW n x m y ∧ r = .dv (.bool v)) ∧ k = [] := by
  refine fn_walk mixed fn_ref03_Same fun A P hA hP Q hQ => ?_
  cbv
  intro hn
  cbv
  intro hm
  cbv
  refine bc_split (fun h1 => ?_) (fun h1 => ?_)
  · cbv
    subst hQ hA
    refine ⟨⟨_, ?_, rfl⟩, rfl⟩
    symm
    rw [← Bool.not_eq_true, sameW_iff]
    rintro ⟨rfl, _⟩
    simp at h1
  · cbv
    obtain rfl : n = m := by subst hA; simp at h1; omega
    refine loop_at mixed hP hA (fun i : { i : Nat // i ≤ n ∧ ∀ j, j < i → x j = y j } => ⟨envOf 26 [(0, .dv (.seq n 1 g)), (1, .dv (.seq n 1 h)), (5, .dv (.int .i64 (A.ofN i.1)))], []⟩) (fun i => n - i.1) ⟨0, Nat.zero_le _, fun j hj => absurd hj (Nat.not_lt_zero j)⟩ (Ent.env (by cbv; subst hA; simp)) ?_
    rintro ⟨i, hi, he⟩
    cbv
    intro _
    cbv
    refine bc_split (fun h1 => ?_) (fun h1 => ?_)
    · cbv
      have h2 : i < n := by subst hA; simpa using h1
      refine ⟨by subst hA; simp; omega, fun k hk hk2 => ?_⟩
      obtain rfl : k = i := by subst hA; simpa using hk
      cbv
      rw [hg k hk2]
      cbv
      refine ⟨by subst hA; simp; omega, fun l hl hl2 => ?_⟩
      obtain rfl : l = k := by subst hA; simpa using hl
      cbv
      rw [hh l hl2]
      cbv
      refine bc_split (fun h3 => ?_) (fun h3 => ?_)
      · cbv
        subst hQ hA
        refine ⟨⟨_, ?_, rfl⟩, rfl⟩
        symm
        rw [← Bool.not_eq_true, sameW_iff]
        rintro ⟨_, h4⟩
        have := h4 l h2
        simp [this] at h3
      · cbv
        refine ⟨⟨l + 1, h2, ?_⟩, by simp only; omega, Ent.env ?_⟩
        · exact below_succ he (by subst hA; simpa using h3)
        · cbv
          subst hA
          simp
          have : n ≤ 17592186044416 := hn
          rw [w64_in (by omega)]
    · cbv
      have h2 : i = n := by subst hA; simp at h1; omega
      subst hQ hA
      refine ⟨⟨_, ?_, rfl⟩, rfl⟩
      symm
      rw [sameW_iff]
      exact ⟨rfl, fun j hj => he j (by omega)⟩

end Go.Proofs.Ytophlodlencgiaa
