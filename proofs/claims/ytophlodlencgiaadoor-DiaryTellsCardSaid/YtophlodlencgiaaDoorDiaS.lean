/-
  Entries of any data, of whole numbers of 64 bits; four arguments.
-/
import Derived.Test.YtophlodlencgiaaDoorDiaR
import Derived.Test.YtophlodlencgiaaDoorVcgW
namespace Go.Proofs.YtophlodlencgiaaDoor
open Go.V

theorem in64 {n : Int} (h : IntKind.i64.has n) : In64 n := by
  simpa [In64, IntKind.has, IntKind.min, IntKind.max, IntKind.bits, IntKind.signed] using h

theorem hasArgs_four {x y z u : Bool × List Ty} : ∀ {gs : List (Nat → DV)}, hasArgs [x, y, z, u] gs → ∃ g h k l, gs = [g, h, k, l] ∧ Ty.hasL x.2 g ∧ Ty.hasL y.2 h ∧ Ty.hasL z.2 k ∧ Ty.hasL u.2 l
  | [g, h, k, l], hh => ⟨g, h, k, l, rfl, hh.1, hh.2.1, hh.2.2.1, hh.2.2.2.1⟩
  | [], hh => hh.elim
  | [_], hh => hh.2.elim
  | [_, _], hh => hh.2.2.elim
  | [_, _, _], hh => hh.2.2.2.elim
  | _ :: _ :: _ :: _ :: _ :: _, hh => hh.2.2.2.2.elim

theorem ents_rng {n : Nat} {G : Nat → Nat → DV} (h : ∀ i, i < n → Ty.hasL [.int .i64, .int .i64, .int .i64, .int .i64, .int .i64, .int .i64, .slice [.int .i64], .int .i64] (G i)) : ∃ S : Ents n G, S.rng := by
  have h1 : ∀ i, ∃ p : (Int × Int × Int × Int) × (Int × Int × Int) × Nat × (Nat → Nat → DV) × (Nat → Int), i < n → G i 0 = .int .i64 p.1.1 ∧ G i 1 = .int .i64 p.1.2.1 ∧ G i 2 = .int .i64 p.1.2.2.1 ∧ G i 3 = .int .i64 p.1.2.2.2 ∧ G i 4 = .int .i64 p.2.1.1 ∧ G i 5 = .int .i64 p.2.1.2.1 ∧ G i 7 = .int .i64 p.2.1.2.2 ∧
      G i 6 = .seq p.2.2.1 1 p.2.2.2.1 ∧ (∀ j, j < p.2.2.1 → p.2.2.2.1 j 0 = .int .i64 (p.2.2.2.2 j)) ∧ In64 p.1.1 ∧ In64 p.1.2.1 ∧ In64 p.1.2.2.2 ∧ In64 p.2.1.1 ∧ In64 p.2.1.2.1 := by
    intro i
    by_cases hi : i < n
    · obtain ⟨⟨a0, r0, e0⟩, ⟨a1, r1, e1⟩, ⟨a2, _, e2⟩, ⟨a3, r3, e3⟩, ⟨a4, r4, e4⟩, ⟨a5, r5, e5⟩, ⟨m, g, e6, _, hg⟩, ⟨a7, _, e7⟩, _⟩ := h i hi
      have hx : ∀ j, ∃ x, j < m → g j 0 = .int .i64 x := by
        intro j
        by_cases hj : j < m
        · obtain ⟨⟨x, _, e⟩, _⟩ := hg j hj
          exact ⟨x, fun _ => e⟩
        · exact ⟨0, fun h => (hj h).elim⟩
      obtain ⟨x, hx⟩ := Classical.axiomOfChoice hx
      exact ⟨((a0, a1, a2, a3), (a4, a5, a7), m, g, x), fun _ => ⟨e0, e1, e2, e3, e4, e5, e7, e6, hx, in64 r0, in64 r1, in64 r3, in64 r4, in64 r5⟩⟩
    · exact ⟨((0, 0, 0, 0), (0, 0, 0), 0, fun _ _ => .nils, fun _ => 0), fun h => (hi h).elim⟩
  obtain ⟨p, hp⟩ := Classical.axiomOfChoice h1
  exact ⟨⟨fun i => (p i).1.1, fun i => (p i).1.2.1, fun i => (p i).1.2.2.1, fun i => (p i).1.2.2.2, fun i => (p i).2.1.1, fun i => (p i).2.1.2.1, fun i => (p i).2.2.1, fun i => (p i).2.2.2.1, fun i => (p i).2.2.2.2, fun i => (p i).2.1.2.2,
    fun i hi => (hp i hi).1, fun i hi => (hp i hi).2.1, fun i hi => (hp i hi).2.2.1, fun i hi => (hp i hi).2.2.2.1, fun i hi => (hp i hi).2.2.2.2.1, fun i hi => (hp i hi).2.2.2.2.2.1, fun i hi => (hp i hi).2.2.2.2.2.2.2.1, fun i hi => (hp i hi).2.2.2.2.2.2.1, fun i hi => (hp i hi).2.2.2.2.2.2.2.2.1⟩, fun i hi => (hp i hi).2.2.2.2.2.2.2.2.2⟩



end Go.Proofs.YtophlodlencgiaaDoor
