/-
  A pipe that is nil has nothing, and does nothing: PipeNobody answers true at every input, and leaves its argument as it was. No condition.
-/
import Derived.Test.YtophlodlencgiaaRows
import Derived.Test.YtophlodlencgiaaVcgW
import Derived.Test.YtophlodlencgiaaPipeP
namespace Go.Proofs.Ytophlodlencgiaa
open Go.V

theorem own : ownKnob Try.prog.godebug = none := by kernel_rfl
theorem laidOut : laidOutB Try.prog = true := by kernel_rfl

theorem PipeNobody_spec {H : Type} (ds : List (DataW H)) (h : ds.length = 1) : Rows.pipeNobodySpec.fn H ds = { results := [.lit (.bool true)], args := ds } := by
  match ds, h with
  | [d], _ => rfl

theorem f8_size : Try.f8.params.size = 1 := by kernel_rfl

theorem PipeNobody_lifted (os : Os) (started : os.Started) (H : Type) (enc : TypeId × Value → H) :
    ReturnsInHanded {} Try.checked os n_law25_PipeNobody .any (Rows.pipeNobodySpec.pre6 enc Try.prog Try.f8 Rows.pipeNobodyRow.domain false) (Rows.pipeNobodySpec.post enc Try.prog Try.f8 false true false false) := by
  refine law_lifted (C := Try.checked) (L := [(true, [.int .i64, .int .i64, .slice [.int .i64]])]) (tb := 4) own started (by kernel_rfl) Try.func8
    (ChangeSpec.witness6 (enc := enc) (C := Try.checked) false ⟨#[], #[.agg #[.int .i64 0, .int .i64 0, .slice none 0 0]], []⟩ 8 (by kernel_rfl) (by kernel_rfl) (by kernel_rfl) (by kernel_rfl))
    rfl (fun ds hds => ?_) laidOut (by kernel_rfl) (by kernel_rfl) (by kernel_rfl) (by kernel_rfl) ?_
  · exact PipeNobody_spec ds (Eq.trans hds f8_size)
  · intro gs hg
    obtain ⟨g, rfl, ⟨kind, _, e0⟩, ⟨k, _, e1⟩, ⟨n, h, e2, _, _⟩, _⟩ := hasArgs_one hg
    have e1 : g 1 = _ := e1
    have e2 : g 2 = .seq n 1 h := e2
    show CallOK PR n_law25_PipeNobody [.agg [.dv (g 0), .dv (g 1), .dv (g 2)]] [] fun r _ => r = .dv (.bool true)
    rw [e0, e1, e2]
    exact ok_PipeNobody kind k n h

theorem PipeNobody_holds : Rows.PipeNobodySaid :=
  OpenClaim.holds_of_wide n_law25_PipeNobody Try.f8 rfl rfl rfl rfl rfl rfl rfl ⟨rfl, rfl, rfl, rfl, rfl⟩ rfl rfl rfl rfl rfl (by kernel_rfl) Try.func8 (by kernel_rfl)
    (of_decide_eq_true (by kernel_rfl)) (by unfold Func.isWrapper; first | (rw [if_pos (by decide +kernel)]; kernel_rfl) | (rw [if_neg (by decide +kernel)]; exact ⟨rfl, rfl⟩))
    (fun os started H enc _ => PipeNobody_lifted os started H enc)

#print axioms PipeNobody_holds
end Go.Proofs.Ytophlodlencgiaa
