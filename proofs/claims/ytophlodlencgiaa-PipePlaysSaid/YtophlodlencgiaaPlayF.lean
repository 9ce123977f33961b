/-
  Whatever is sent, received and released, and whichever end is held and started, each call tells what the document says, and so do both ends: PipePlays. It answers true at every input, and leaves its arguments as they were. No condition.
-/
import Derived.Test.YtophlodlencgiaaRows
import Derived.Test.YtophlodlencgiaaPipeV
import Derived.Test.YtophlodlencgiaaPlayE
namespace Go.Proofs.Ytophlodlencgiaa
open Go.V

theorem own : ownKnob Try.prog.godebug = none := by kernel_rfl
theorem laidOut : laidOutB Try.prog = true := by kernel_rfl
theorem f7_size : Try.f7.params.size = 2 := by kernel_rfl

theorem PipePlays_spec {H : Type} (ds : List (DataW H)) (h : ds.length = 2) : Rows.pipePlaysSpec.fn H ds = { results := [.lit (.bool true)], args := ds } := by
  match ds, h with
  | [d, e], _ => rfl

theorem PipePlays_lifted (os : Os) (started : os.Started) (H : Type) (enc : TypeId × Value → H) :
    ReturnsInHanded {} Try.checked os n_law25_PipePlays .any (Rows.pipePlaysSpec.pre6 enc Try.prog Try.f7 Rows.pipePlaysRow.domain false) (Rows.pipePlaysSpec.post enc Try.prog Try.f7 false true false false) := by
  refine law_lifted (C := Try.checked) (L := [(false, [.int .i64]), (false, [.slice [.int .i64, .int .i64, .slice [.int .i64]]])]) (tb := 4) own started (by kernel_rfl) Try.func7
    (ChangeSpec.witness6 (enc := enc) (C := Try.checked) false ⟨#[], #[.int .i64 0, .slice none 0 0], []⟩ 8 (by kernel_rfl) (by kernel_rfl) (by kernel_rfl) (by kernel_rfl))
    rfl (fun ds hds => ?_) laidOut (by kernel_rfl) (by kernel_rfl) (by kernel_rfl) (by kernel_rfl) ?_
  · exact PipePlays_spec ds (Eq.trans hds f7_size)
  · intro gs hg
    obtain ⟨g, h, rfl, ⟨⟨room, _, e0⟩, _⟩, ⟨n, G, e1, _, hG⟩, _⟩ := hasArgs_two hg
    obtain ⟨o⟩ := ops_of hG
    have e1 : h 0 = .seq n 3 G := e1
    show CallOK PR n_law25_PipePlays [.dv (g 0), .dv (h 0)] [] fun r _ => r = .dv (.bool true)
    rw [e0, e1]
    exact ok_PipePlays room n G o

theorem PipePlays_holds : Rows.PipePlaysSaid :=
  OpenClaim.holds_of_wide n_law25_PipePlays Try.f7 rfl rfl rfl rfl rfl rfl rfl ⟨rfl, rfl, rfl, rfl, rfl⟩ rfl rfl rfl rfl rfl (by kernel_rfl) Try.func7 (by kernel_rfl)
    (of_decide_eq_true (by kernel_rfl)) (by unfold Func.isWrapper; first | (rw [if_pos (by decide +kernel)]; kernel_rfl) | (rw [if_neg (by decide +kernel)]; exact ⟨rfl, rfl⟩))
    (fun os started H enc _ => PipePlays_lifted os started H enc)

#print axioms PipePlays_holds
end Go.Proofs.Ytophlodlencgiaa
