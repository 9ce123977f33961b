/-
  What a soc refuses changes nothing, but a bit that was rung at a mailbox that is full; a copy is the same, answers the same and stays the same: SocKeeps. It answers true at every input, and leaves its arguments as they were. No condition.
-/
import Derived.Test.YtiaceoomiflgcaaGreatRows
import Derived.Test.YtiaceoomiflgcaaGreatVcgW
import Derived.Test.YtiaceoomiflgcaaGreatSgP
namespace Go.Proofs.YtiaceoomiflgcaaGreat
open Go.V

theorem own : ownKnob Tryz.prog.godebug = none := by kernel_rfl
theorem laidOut : laidOutB Tryz.prog = true := by kernel_rfl
theorem f7_size : Tryz.f7.params.size = 3 := by kernel_rfl

theorem SocKeeps_spec {H : Type} (ds : List (DataW H)) (h : ds.length = 3) : Rows.socKeepsSpec.fn H ds = { results := [.lit (.bool true)], args := ds } := by
  match ds, h with
  | [a, b, c], _ => rfl

theorem SocKeeps_lifted (os : Os) (started : os.Started) (H : Type) (enc : TypeId × Value → H) :
    ReturnsInHanded {} Tryz.checked os n_law12_SocKeeps .any (Rows.socKeepsSpec.pre6 enc Tryz.prog Tryz.f7 Rows.socKeepsRow.domain false) (Rows.socKeepsSpec.post enc Tryz.prog Tryz.f7 false true false false) := by
  refine law_lifted (C := Tryz.checked) (L := [(true, [.int .i64, .int .i64, .int .i64]), (false, [.int .i64]), (false, [.slice [.int .i64, .int .i64, .int .i64, .int .i64]])]) (tb := 4) own started (by kernel_rfl) Tryz.func7
    (ChangeSpec.witness6 (enc := enc) (C := Tryz.checked) false ⟨#[], #[.agg #[.int .i64 0, .int .i64 0, .int .i64 0], .int .i64 0, .slice none 0 0], []⟩ 8 (by kernel_rfl) (by kernel_rfl) (by kernel_rfl) (by kernel_rfl))
    rfl (fun ds hds => ?_) laidOut (by kernel_rfl) (by kernel_rfl) (by kernel_rfl) (by kernel_rfl) (fun _ _ _ _ _ h => by cases h) ?_
  · exact SocKeeps_spec ds (Eq.trans hds f7_size)
  · intro gs hg
    obtain ⟨g, h, k, rfl, hg1, ⟨⟨mo, _, e1⟩, _⟩, hk1⟩ := hasArgs_three hg
    obtain ⟨c, n, kk, hc, hn, hkk, e2⟩ := plan_of hg1
    obtain ⟨N, G, hG, e3⟩ := ops_of hk1
    show CallOK PR n_law12_SocKeeps [.agg [.dv (g 0), .dv (g 1), .dv (g 2)], .dv (h 0), .dv (k 0)] [] fun r _ => r = .dv (.bool true)
    rw [e1, e2, e3]
    exact (ok_SocKeeps c n kk mo N G hc hn hkk hG).ent fun r m h => ⟨r, m, Ent.refl _ _, h.1⟩

theorem SocKeeps_holds : Rows.SocKeepsSaid :=
  OpenClaim.holds_of_wide n_law12_SocKeeps Tryz.f7 rfl rfl rfl rfl rfl rfl rfl ⟨rfl, rfl, rfl, rfl, rfl⟩ rfl rfl rfl rfl rfl (by kernel_rfl) Tryz.func7 (by kernel_rfl)
    (of_decide_eq_true (by kernel_rfl)) (by unfold Func.isWrapper; first | (rw [if_pos (by decide +kernel)]; kernel_rfl) | (rw [if_neg (by decide +kernel)]; exact ⟨rfl, rfl⟩))
    (fun os started H enc _ => SocKeeps_lifted os started H enc)

#print axioms SocKeeps_holds
end Go.Proofs.YtiaceoomiflgcaaGreat
