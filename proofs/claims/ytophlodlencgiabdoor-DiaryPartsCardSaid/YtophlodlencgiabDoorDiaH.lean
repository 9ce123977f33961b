/-
  Entries of any data.
-/
import Derived.Test.YtophlodlencgiabDoorDiaG
import Derived.Test.YtophlodlencgiabDoorVcgV
namespace Go.Proofs.YtophlodlencgiabDoor
open Go.V

theorem ents_of {n : Nat} {G : Nat → Nat → DV} (h : ∀ i, i < n → Ty.hasL [.int .i64, .int .i64, .int .i64, .int .i64, .int .i64, .int .i64, .slice [.int .i64], .int .i64] (G i)) : Nonempty (Ents n G) := by
  have h1 : ∀ i, ∃ p : (Int × Int × Int × Int) × (Int × Int × Int) × Nat × (Nat → Nat → DV) × (Nat → Int), i < n → G i 0 = .int .i64 p.1.1 ∧ G i 1 = .int .i64 p.1.2.1 ∧ G i 2 = .int .i64 p.1.2.2.1 ∧ G i 3 = .int .i64 p.1.2.2.2 ∧ G i 4 = .int .i64 p.2.1.1 ∧ G i 5 = .int .i64 p.2.1.2.1 ∧ G i 7 = .int .i64 p.2.1.2.2 ∧
      G i 6 = .seq p.2.2.1 1 p.2.2.2.1 ∧ ∀ j, j < p.2.2.1 → p.2.2.2.1 j 0 = .int .i64 (p.2.2.2.2 j) := by
    intro i
    by_cases hi : i < n
    · obtain ⟨⟨a0, _, e0⟩, ⟨a1, _, e1⟩, ⟨a2, _, e2⟩, ⟨a3, _, e3⟩, ⟨a4, _, e4⟩, ⟨a5, _, e5⟩, ⟨m, g, e6, _, hg⟩, ⟨a7, _, e7⟩, _⟩ := h i hi
      have hx : ∀ j, ∃ x, j < m → g j 0 = .int .i64 x := by
        intro j
        by_cases hj : j < m
        · obtain ⟨⟨x, _, e⟩, _⟩ := hg j hj
          exact ⟨x, fun _ => e⟩
        · exact ⟨0, fun h => (hj h).elim⟩
      obtain ⟨x, hx⟩ := Classical.axiomOfChoice hx
      exact ⟨((a0, a1, a2, a3), (a4, a5, a7), m, g, x), fun _ => ⟨e0, e1, e2, e3, e4, e5, e7, e6, hx⟩⟩
    · exact ⟨((0, 0, 0, 0), (0, 0, 0), 0, fun _ _ => .nils, fun _ => 0), fun h => (hi h).elim⟩
  obtain ⟨p, hp⟩ := Classical.axiomOfChoice h1
  exact ⟨⟨fun i => (p i).1.1, fun i => (p i).1.2.1, fun i => (p i).1.2.2.1, fun i => (p i).1.2.2.2, fun i => (p i).2.1.1, fun i => (p i).2.1.2.1, fun i => (p i).2.2.1, fun i => (p i).2.2.2.1, fun i => (p i).2.2.2.2, fun i => (p i).2.1.2.2,
    fun i hi => (hp i hi).1, fun i hi => (hp i hi).2.1, fun i hi => (hp i hi).2.2.1, fun i hi => (hp i hi).2.2.2.1, fun i hi => (hp i hi).2.2.2.2.1, fun i hi => (hp i hi).2.2.2.2.2.1, fun i hi => (hp i hi).2.2.2.2.2.2.2.1, fun i hi => (hp i hi).2.2.2.2.2.2.1, fun i hi => (hp i hi).2.2.2.2.2.2.2.2⟩⟩


end Go.Proofs.YtophlodlencgiabDoor
