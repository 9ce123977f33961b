/-
  Calls that happened one by one on a queue have exactly that order, and none with one answer changed: OrderOne. It answers true at every input, and leaves its arguments as they were. No condition.
-/
import Derived.Test.YtophlodlencgiaaRows
import Derived.Test.YtophlodlencgiaaVcgV
import Derived.Test.YtophlodlencgiaaVcgW
import Derived.Test.YtophlodlencgiaaOroH
namespace Go.Proofs.Ytophlodlencgiaa
open Go.V

theorem asks_of {n : Nat} {G : Nat → Nat → DV} (h : ∀ i, i < n → Ty.hasL [.int .i64, .slice [.int .i64]] (G i)) : Nonempty (Asks n G) := by
  have h1 : ∀ i, ∃ p : Int × Nat × (Nat → Nat → DV) × (Nat → Int), i < n → G i 0 = .int .i64 p.1 ∧ G i 1 = .seq p.2.1 1 p.2.2.1 ∧ ∀ j, j < p.2.1 → p.2.2.1 j 0 = .int .i64 (p.2.2.2 j) := by
    intro i
    by_cases hi : i < n
    · obtain ⟨⟨a0, _, e0⟩, ⟨m, g, e6, _, hg⟩, _⟩ := h i hi
      have hx : ∀ j, ∃ x, j < m → g j 0 = .int .i64 x := by
        intro j
        by_cases hj : j < m
        · obtain ⟨⟨x, _, e⟩, _⟩ := hg j hj
          exact ⟨x, fun _ => e⟩
        · exact ⟨0, fun h => (hj h).elim⟩
      obtain ⟨x, hx⟩ := Classical.axiomOfChoice hx
      exact ⟨(a0, m, g, x), fun _ => ⟨e0, e6, hx⟩⟩
    · exact ⟨(0, 0, fun _ _ => .nils, fun _ => 0), fun h => (hi h).elim⟩
  obtain ⟨p, hp⟩ := Classical.axiomOfChoice h1
  exact ⟨⟨fun i => (p i).1, fun i => (p i).2.1, fun i => (p i).2.2.1, fun i => (p i).2.2.2, fun i hi => (hp i hi).1, fun i hi => (hp i hi).2.1, fun i hi => (hp i hi).2.2⟩⟩

theorem own : ownKnob Try.prog.godebug = none := by kernel_rfl
theorem laidOut : laidOutB Try.prog = true := by kernel_rfl
theorem f5_size : Try.f5.params.size = 3 := by kernel_rfl

theorem OrderOne_spec {H : Type} (ds : List (DataW H)) (h : ds.length = 3) : Rows.orderOneSpec.fn H ds = { results := [.lit (.bool true)], args := ds } := by
  match ds, h with
  | [d, e, f], _ => rfl

theorem OrderOne_lifted (os : Os) (started : os.Started) (H : Type) (enc : TypeId × Value → H) :
    ReturnsInHanded {} Try.checked os n_law21_OrderOne .any (Rows.orderOneSpec.pre6 enc Try.prog Try.f5 Rows.orderOneRow.domain false) (Rows.orderOneSpec.post enc Try.prog Try.f5 false true false false) := by
  refine law_lifted (C := Try.checked) (L := [(false, [.int .i64]), (false, [.slice [.int .i64, .slice [.int .i64]]]), (false, [.int .u64])]) (tb := 4) own started (by kernel_rfl) Try.func5
    (ChangeSpec.witness6 (enc := enc) (C := Try.checked) false ⟨#[], #[.int .i64 0, .slice none 0 0, .int .u64 0], []⟩ 8 (by kernel_rfl) (by kernel_rfl) (by kernel_rfl) (by kernel_rfl))
    rfl (fun ds hds => ?_) laidOut (by kernel_rfl) (by kernel_rfl) (by kernel_rfl) (by kernel_rfl) (fun _ _ _ _ _ h => by cases h) ?_
  · exact OrderOne_spec ds (Eq.trans hds f5_size)
  · intro gs hg
    obtain ⟨g, h, k, rfl, ⟨⟨room, hr, e0⟩, _⟩, ⟨⟨n, G, e1, _, hG⟩, _⟩, ⟨wh, hw, e2⟩, _⟩ := hasArgs_three hg
    obtain ⟨Q⟩ := asks_of hG
    have e0 : g 0 = .int .i64 room := e0
    have e1 : h 0 = .seq n 2 G := e1
    have e2 : k 0 = .int .u64 wh := e2
    show CallOK PR n_law21_OrderOne [.dv (g 0), .dv (h 0), .dv (k 0)] [] fun r _ => r = .dv (.bool true)
    rw [e0, e1, e2]
    have hw : 0 ≤ wh ∧ wh ≤ 18446744073709551615 := by simpa [IntKind.has, IntKind.min, IntKind.max, IntKind.bits, IntKind.signed] using hw
    refine (ok_OrderOne Q room wh hw.1 (by omega)).ent fun r m h => ⟨r, m, Ent.refl _ _, h.1⟩

theorem OrderOne_holds : Rows.OrderOneSaid :=
  OpenClaim.holds_of_wide n_law21_OrderOne Try.f5 rfl rfl rfl rfl rfl rfl rfl ⟨rfl, rfl, rfl, rfl, rfl⟩ rfl rfl rfl rfl rfl (by kernel_rfl) Try.func5 (by kernel_rfl)
    (of_decide_eq_true (by kernel_rfl)) (by unfold Func.isWrapper; first | (rw [if_pos (by decide +kernel)]; kernel_rfl) | (rw [if_neg (by decide +kernel)]; exact ⟨rfl, rfl⟩))
    (fun os started H enc _ => OrderOne_lifted os started H enc)

#print axioms OrderOne_holds
end Go.Proofs.Ytophlodlencgiaa
