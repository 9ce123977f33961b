/-
  Longest is the greatest number of sent ones that have an order with what began in time: OrderLongest. It answers true at every input, and leaves its arguments as they were. No condition.
-/
import Derived.Test.YtophlodlencgiaaRows
import Derived.Test.YtophlodlencgiaaVcgV
import Derived.Test.YtophlodlencgiaaVcgW
import Derived.Test.YtophlodlencgiaaOrlB
namespace Go.Proofs.Ytophlodlencgiaa
open Go.V

theorem ents_of {n : Nat} {G : Nat → Nat → DV} (h : ∀ i, i < n → Ty.hasL [.int .i64, .int .i64, .int .i64, .int .i64, .int .i64, .int .i64, .slice [.int .i64], .int .i64] (G i)) : Nonempty (Ents n G) := by
  have h1 : ∀ i, ∃ p : (Int × Int × Int × Int) × (Int × Int × Int) × Nat × (Nat → Nat → DV) × (Nat → Int), i < n → G i 0 = .int .i64 p.1.1 ∧ G i 1 = .int .i64 p.1.2.1 ∧ G i 2 = .int .i64 p.1.2.2.1 ∧ G i 3 = .int .i64 p.1.2.2.2 ∧ G i 4 = .int .i64 p.2.1.1 ∧ G i 5 = .int .i64 p.2.1.2.1 ∧ G i 7 = .int .i64 p.2.1.2.2 ∧
      G i 6 = .seq p.2.2.1 1 p.2.2.2.1 ∧ ∀ j, j < p.2.2.1 → p.2.2.2.1 j 0 = .int .i64 (p.2.2.2.2 j) := by
    intro i
    by_cases hi : i < n
    · obtain ⟨⟨a0, _, e0⟩, ⟨a1, _, e1⟩, ⟨a2, _, e2⟩, ⟨a3, _, e3⟩, ⟨a4, _, e4⟩, ⟨a5, _, e5⟩, ⟨m, g, e6, _, hg⟩, ⟨a7, _, e7⟩, _⟩ := h i hi
      have hx : ∀ j, ∃ x, j < m → g j 0 = .int .i64 x := by
        intro j
        by_cases hj : j < m
        · obtain ⟨⟨x, _, e⟩, _⟩ := hg j hj
          exact ⟨x, fun _ => e⟩
        · exact ⟨0, fun h => (hj h).elim⟩
      obtain ⟨x, hx⟩ := Classical.axiomOfChoice hx
      exact ⟨((a0, a1, a2, a3), (a4, a5, a7), m, g, x), fun _ => ⟨e0, e1, e2, e3, e4, e5, e7, e6, hx⟩⟩
    · exact ⟨((0, 0, 0, 0), (0, 0, 0), 0, fun _ _ => .nils, fun _ => 0), fun h => (hi h).elim⟩
  obtain ⟨p, hp⟩ := Classical.axiomOfChoice h1
  exact ⟨⟨fun i => (p i).1.1, fun i => (p i).1.2.1, fun i => (p i).1.2.2.1, fun i => (p i).1.2.2.2, fun i => (p i).2.1.1, fun i => (p i).2.1.2.1, fun i => (p i).2.2.1, fun i => (p i).2.2.2.1, fun i => (p i).2.2.2.2, fun i => (p i).2.1.2.2,
    fun i hi => (hp i hi).1, fun i hi => (hp i hi).2.1, fun i hi => (hp i hi).2.2.1, fun i hi => (hp i hi).2.2.2.1, fun i hi => (hp i hi).2.2.2.2.1, fun i hi => (hp i hi).2.2.2.2.2.1, fun i hi => (hp i hi).2.2.2.2.2.2.2.1, fun i hi => (hp i hi).2.2.2.2.2.2.1, fun i hi => (hp i hi).2.2.2.2.2.2.2.2⟩⟩

theorem own : ownKnob Try.prog.godebug = none := by kernel_rfl
theorem laidOut : laidOutB Try.prog = true := by kernel_rfl
theorem f10_size : Try.f10.params.size = 3 := by kernel_rfl

theorem OrderLongest_spec {H : Type} (ds : List (DataW H)) (h : ds.length = 3) : Rows.orderLongestSpec.fn H ds = { results := [.lit (.bool true)], args := ds } := by
  match ds, h with
  | [d, e, f], _ => rfl

theorem OrderLongest_lifted (os : Os) (started : os.Started) (H : Type) (enc : TypeId × Value → H) :
    ReturnsInHanded {} Try.checked os n_law21_OrderLongest .any (Rows.orderLongestSpec.pre6 enc Try.prog Try.f10 Rows.orderLongestRow.domain false) (Rows.orderLongestSpec.post enc Try.prog Try.f10 false true false false) := by
  refine law_lifted (C := Try.checked) (L := [(false, [.slice [.int .i64, .int .i64, .int .i64, .int .i64, .int .i64, .int .i64, .slice [.int .i64], .int .i64]]), (false, [.slice [.int .i64, .int .i64, .int .i64, .int .i64, .int .i64, .int .i64, .slice [.int .i64], .int .i64]]), (false, [.int .i64])]) (tb := 4) own started (by kernel_rfl) Try.func10
    (ChangeSpec.witness6 (enc := enc) (C := Try.checked) false ⟨#[], #[.slice none 0 0, .slice none 0 0, .int .i64 0], []⟩ 8 (by kernel_rfl) (by kernel_rfl) (by kernel_rfl) (by kernel_rfl))
    rfl (fun ds hds => ?_) laidOut (by kernel_rfl) (by kernel_rfl) (by kernel_rfl) (by kernel_rfl) (fun _ _ _ _ _ h => by cases h) ?_
  · exact OrderLongest_spec ds (Eq.trans hds f10_size)
  · intro gs hg
    obtain ⟨g, h, k, rfl, ⟨⟨n, G, e0, _, hG⟩, _⟩, ⟨⟨m, G', e1, _, hG'⟩, _⟩, ⟨room, hr, e2⟩, _⟩ := hasArgs_three hg
    obtain ⟨S⟩ := ents_of hG
    obtain ⟨T⟩ := ents_of hG'
    have e0 : g 0 = .seq n 8 G := e0
    have e1 : h 0 = .seq m 8 G' := e1
    show CallOK PR n_law21_OrderLongest [.dv (g 0), .dv (h 0), .dv (k 0)] [] fun r _ => r = .dv (.bool true)
    rw [e0, e1, e2]
    exact (ok_OrderLongest S T room).ent fun r m h => ⟨r, m, Ent.refl _ _, h.1⟩

theorem OrderLongest_holds : Rows.OrderLongestSaid :=
  OpenClaim.holds_of_wide n_law21_OrderLongest Try.f10 rfl rfl rfl rfl rfl rfl rfl ⟨rfl, rfl, rfl, rfl, rfl⟩ rfl rfl rfl rfl rfl (by kernel_rfl) Try.func10 (by kernel_rfl)
    (of_decide_eq_true (by kernel_rfl)) (by unfold Func.isWrapper; first | (rw [if_pos (by decide +kernel)]; kernel_rfl) | (rw [if_neg (by decide +kernel)]; exact ⟨rfl, rfl⟩))
    (fun os started H enc _ => OrderLongest_lifted os started H enc)

#print axioms OrderLongest_holds
end Go.Proofs.Ytophlodlencgiaa
