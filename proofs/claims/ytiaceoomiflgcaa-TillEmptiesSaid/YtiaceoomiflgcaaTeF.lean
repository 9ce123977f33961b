/-
  One core alone takes all items, in rising order, and then none; what it puts back it takes again in the other order: TillEmpties. It answers true at every input, and leaves its arguments as they were. No condition.
-/
import Derived.Test.YtiaceoomiflgcaaRows
import Derived.Test.YtiaceoomiflgcaaVcgW
import Derived.Test.YtiaceoomiflgcaaTeE
namespace Go.Proofs.Ytiaceoomiflgcaa
open Go.V

theorem own : ownKnob Try.prog.godebug = none := by kernel_rfl
theorem laidOut : laidOutB Try.prog = true := by kernel_rfl
theorem f3_size : Try.f3.params.size = 2 := by kernel_rfl

theorem TillEmpties_spec {H : Type} (ds : List (DataW H)) (h : ds.length = 2) : Rows.tillEmptiesSpec.fn H ds = { results := [.lit (.bool true)], args := ds } := by
  match ds, h with
  | [a, b], _ => rfl

theorem TillEmpties_lifted (os : Os) (started : os.Started) (H : Type) (enc : TypeId × Value → H) :
    ReturnsInHanded {} Try.checked os n_law18_TillEmpties .any (Rows.tillEmptiesSpec.pre6 enc Try.prog Try.f3 Rows.tillEmptiesRow.domain false) (Rows.tillEmptiesSpec.post enc Try.prog Try.f3 false true false false) := by
  refine law_lifted (C := Try.checked) (L := [(false, [.int .i64]), (false, [.slice [.int .u8]])]) (tb := 4) own started (by kernel_rfl) Try.func3
    (ChangeSpec.witness6 (enc := enc) (C := Try.checked) false ⟨#[], #[.int .i64 0, .slice none 0 0], []⟩ 8 (by kernel_rfl) (by kernel_rfl) (by kernel_rfl) (by kernel_rfl))
    rfl (fun ds hds => ?_) laidOut (by kernel_rfl) (by kernel_rfl) (by kernel_rfl) (by kernel_rfl) (fun _ _ _ _ _ h => by cases h) ?_
  · exact TillEmpties_spec ds (Eq.trans hds f3_size)
  · intro gs hg
    obtain ⟨g, h, rfl, ⟨⟨n, _, e0⟩, _⟩, ⟨⟨M, G, e1, _, hG⟩, _⟩⟩ := hasArgs_two hg
    have e0 : g 0 = .int .i64 n := e0
    have e1 : h 0 = .seq M 1 G := e1
    show CallOK PR n_law18_TillEmpties [.dv (g 0), .dv (h 0)] [] fun r _ => r = .dv (.bool true)
    rw [e0, e1]
    refine (ok_Empties n M G fun t ht => ?_).ent fun r m h => ⟨r, m, Ent.refl _ _, h.1⟩
    obtain ⟨⟨a, ha, e⟩, _⟩ := hG t ht
    have ha : 0 ≤ a ∧ a ≤ 255 := by simpa [IntKind.has, IntKind.min, IntKind.max, IntKind.bits, IntKind.signed] using ha
    exact ⟨a, ha.1, ha.2, e⟩

theorem TillEmpties_holds : Rows.TillEmptiesSaid :=
  OpenClaim.holds_of_wide n_law18_TillEmpties Try.f3 rfl rfl rfl rfl rfl rfl rfl ⟨rfl, rfl, rfl, rfl, rfl⟩ rfl rfl rfl rfl rfl (by kernel_rfl) Try.func3 (by kernel_rfl)
    (of_decide_eq_true (by kernel_rfl)) (by unfold Func.isWrapper; first | (rw [if_pos (by decide +kernel)]; kernel_rfl) | (rw [if_neg (by decide +kernel)]; exact ⟨rfl, rfl⟩))
    (fun os started H enc _ => TillEmpties_lifted os started H enc)

#print axioms TillEmpties_holds
end Go.Proofs.Ytiaceoomiflgcaa
