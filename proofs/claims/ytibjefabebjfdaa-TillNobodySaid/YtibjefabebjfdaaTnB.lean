/-
  A till that is nil has nothing: TillNobody. It answers true at every input, and leaves its argument as it was. No condition.
-/
import Derived.Test.YtibjefabebjfdaaRows
import Derived.Test.YtibjefabebjfdaaVcgW
import Derived.Test.YtibjefabebjfdaaTnA
namespace Go.Proofs.Ytibjefabebjfdaa
open Go.V

theorem own : ownKnob Try.prog.godebug = none := by kernel_rfl
theorem laidOut : laidOutB Try.prog = true := by kernel_rfl
theorem f3_size : Try.f3.params.size = 1 := by kernel_rfl

theorem TillNobody_spec {H : Type} (ds : List (DataW H)) (h : ds.length = 1) : Rows.tillNobodySpec.fn H ds = { results := [.lit (.bool true)], args := ds } := by
  match ds, h with
  | [a], _ => rfl

theorem TillNobody_lifted (os : Os) (started : os.Started) (H : Type) (enc : TypeId × Value → H) :
    ReturnsInHanded {} Try.checked os n_law18_TillNobody .any (Rows.tillNobodySpec.pre6 enc Try.prog Try.f3 Rows.tillNobodyRow.domain false) (Rows.tillNobodySpec.post enc Try.prog Try.f3 false true false false) := by
  refine law_lifted (C := Try.checked) (L := [(false, [.int .i64])]) (tb := 4) own started (by kernel_rfl) Try.func3
    (ChangeSpec.witness6 (enc := enc) (C := Try.checked) false ⟨#[], #[.int .i64 0], []⟩ 8 (by kernel_rfl) (by kernel_rfl) (by kernel_rfl) (by kernel_rfl))
    rfl (fun ds hds => ?_) laidOut (by kernel_rfl) (by kernel_rfl) (by kernel_rfl) (by kernel_rfl) (fun _ _ _ _ _ h => by cases h) ?_
  · exact TillNobody_spec ds (Eq.trans hds f3_size)
  · intro gs hg
    obtain ⟨g, rfl, ⟨x, _, e0⟩, _⟩ := hasArgs_one hg
    show CallOK PR n_law18_TillNobody [.dv (g 0)] [] fun r _ => r = .dv (.bool true)
    rw [e0]
    exact ok_TillNobody x

theorem TillNobody_holds : Rows.TillNobodySaid :=
  OpenClaim.holds_of_wide n_law18_TillNobody Try.f3 rfl rfl rfl rfl rfl rfl rfl ⟨rfl, rfl, rfl, rfl, rfl⟩ rfl rfl rfl rfl rfl (by kernel_rfl) Try.func3 (by kernel_rfl)
    (of_decide_eq_true (by kernel_rfl)) (by unfold Func.isWrapper; first | (rw [if_pos (by decide +kernel)]; kernel_rfl) | (rw [if_neg (by decide +kernel)]; exact ⟨rfl, rfl⟩))
    (fun os started H enc _ => TillNobody_lifted os started H enc)

#print axioms TillNobody_holds
end Go.Proofs.Ytibjefabebjfdaa
