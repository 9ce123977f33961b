/-
  The calls of a list, read.
-/
import Derived.Test.YtophlodlencgiaaVcgW
import Derived.Test.YtophlodlencgiaaPipeR
namespace Go.Proofs.Ytophlodlencgiaa
open Go.V

theorem ops_of {n : Nat} {G : Nat → Nat → DV} (h : ∀ i, i < n → Ty.hasL [.int .i64, .int .i64, .slice [.int .i64]] (G i)) : Nonempty (Ops n G) := by
  have h1 : ∀ i, ∃ p : Int × Int × Nat × (Nat → Nat → DV) × (Nat → Int), i < n → G i 0 = .int .i64 p.1 ∧ G i 1 = .int .i64 p.2.1 ∧ G i 2 = .seq p.2.2.1 1 p.2.2.2.1 ∧ ∀ j, j < p.2.2.1 → p.2.2.2.1 j 0 = .int .i64 (p.2.2.2.2 j) := by
    intro i
    by_cases hi : i < n
    · obtain ⟨⟨kd, _, e0⟩, ⟨k, _, e1⟩, ⟨m, g, e2, _, hg⟩, _⟩ := h i hi
      have hx : ∀ j, ∃ x, j < m → g j 0 = .int .i64 x := by
        intro j
        by_cases hj : j < m
        · obtain ⟨⟨x, _, e⟩, _⟩ := hg j hj
          exact ⟨x, fun _ => e⟩
        · exact ⟨0, fun h => (hj h).elim⟩
      obtain ⟨x, hx⟩ := Classical.axiomOfChoice hx
      exact ⟨(kd, k, m, g, x), fun _ => ⟨e0, e1, e2, hx⟩⟩
    · exact ⟨(0, 0, 0, fun _ _ => .nils, fun _ => 0), fun h => (hi h).elim⟩
  obtain ⟨p, hp⟩ := Classical.axiomOfChoice h1
  exact ⟨⟨fun i => (p i).1, fun i => (p i).2.1, fun i => (p i).2.2.1, fun i => (p i).2.2.2.1, fun i => (p i).2.2.2.2, fun i hi => (hp i hi).1, fun i hi => (hp i hi).2.1, fun i hi => (hp i hi).2.2.1, fun i hi => (hp i hi).2.2.2⟩⟩

end Go.Proofs.Ytophlodlencgiaa
