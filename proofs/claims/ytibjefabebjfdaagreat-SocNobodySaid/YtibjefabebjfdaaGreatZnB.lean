/-
  A soc that is nil has nothing: SocNobody. It answers true at every input, and leaves its argument as it was. No condition.
-/
import Derived.Test.YtibjefabebjfdaaGreatRows
import Derived.Test.YtibjefabebjfdaaGreatVcgW
import Derived.Test.YtibjefabebjfdaaGreatZnA
namespace Go.Proofs.YtibjefabebjfdaaGreat
open Go.V

theorem own : ownKnob Tryz.prog.godebug = none := by kernel_rfl
theorem laidOut : laidOutB Tryz.prog = true := by kernel_rfl
theorem f3_size : Tryz.f3.params.size = 1 := by kernel_rfl

theorem SocNobody_spec {H : Type} (ds : List (DataW H)) (h : ds.length = 1) : Rows.socNobodySpec.fn H ds = { results := [.lit (.bool true)], args := ds } := by
  match ds, h with
  | [a], _ => rfl

theorem SocNobody_lifted (os : Os) (started : os.Started) (H : Type) (enc : TypeId × Value → H) :
    ReturnsInHanded {} Tryz.checked os n_law12_SocNobody .any (Rows.socNobodySpec.pre6 enc Tryz.prog Tryz.f3 Rows.socNobodyRow.domain false) (Rows.socNobodySpec.post enc Tryz.prog Tryz.f3 false true false false) := by
  refine law_lifted (C := Tryz.checked) (L := [(true, [.int .i64, .int .i64, .int .i64, .int .i64])]) (tb := 4) own started (by kernel_rfl) Tryz.func3
    (ChangeSpec.witness6 (enc := enc) (C := Tryz.checked) false ⟨#[], #[.agg #[.int .i64 0, .int .i64 0, .int .i64 0, .int .i64 0]], []⟩ 8 (by kernel_rfl) (by kernel_rfl) (by kernel_rfl) (by kernel_rfl))
    rfl (fun ds hds => ?_) laidOut (by kernel_rfl) (by kernel_rfl) (by kernel_rfl) (by kernel_rfl) (fun _ _ _ _ _ h => by cases h) ?_
  · exact SocNobody_spec ds (Eq.trans hds f3_size)
  · intro gs hg
    obtain ⟨g, rfl, ⟨k, _, e0⟩, ⟨c, _, e1⟩, ⟨a, _, e2⟩, ⟨w, _, e3⟩, _⟩ := hasArgs_one hg
    have e1 : g 1 = _ := e1
    have e2 : g 2 = _ := e2
    have e3 : g 3 = _ := e3
    show CallOK PR n_law12_SocNobody [.agg [.dv (g 0), .dv (g 1), .dv (g 2), .dv (g 3)]] [] fun r _ => r = .dv (.bool true)
    rw [e0, e1, e2, e3]
    exact ok_SocNobody k c a w

theorem SocNobody_holds : Rows.SocNobodySaid :=
  OpenClaim.holds_of_wide n_law12_SocNobody Tryz.f3 rfl rfl rfl rfl rfl rfl rfl ⟨rfl, rfl, rfl, rfl, rfl⟩ rfl rfl rfl rfl rfl (by kernel_rfl) Tryz.func3 (by kernel_rfl)
    (of_decide_eq_true (by kernel_rfl)) (by unfold Func.isWrapper; first | (rw [if_pos (by decide +kernel)]; kernel_rfl) | (rw [if_neg (by decide +kernel)]; exact ⟨rfl, rfl⟩))
    (fun os started H enc _ => SocNobody_lifted os started H enc)

#print axioms SocNobody_holds
end Go.Proofs.YtibjefabebjfdaaGreat
