/-
  What the port of a core does is what the core reads and writes of the soc, and nothing where that is not memory, or is refused: PortCore. It answers true at every input, and leaves its arguments as they were. No condition.
-/
import Derived.Test.YtiaceoomiflgcaaGreatRows
import Derived.Test.YtiaceoomiflgcaaGreatVcgW
import Derived.Test.YtiaceoomiflgcaaGreatSpE
namespace Go.Proofs.YtiaceoomiflgcaaGreat
open Go.V

theorem own : ownKnob Tryz.prog.godebug = none := by kernel_rfl
theorem laidOut : laidOutB Tryz.prog = true := by kernel_rfl
theorem f8_size : Tryz.f8.params.size = 4 := by kernel_rfl

theorem PortCore_spec {H : Type} (ds : List (DataW H)) (h : ds.length = 4) : Rows.portCoreSpec.fn H ds = { results := [.lit (.bool true)], args := ds } := by
  match ds, h with
  | [a, b, c, d], _ => rfl

theorem PortCore_lifted (os : Os) (started : os.Started) (H : Type) (enc : TypeId × Value → H) :
    ReturnsInHanded {} Tryz.checked os n_law14_PortCore .any (Rows.portCoreSpec.pre6 enc Tryz.prog Tryz.f8 Rows.portCoreRow.domain false) (Rows.portCoreSpec.post enc Tryz.prog Tryz.f8 false true false false) := by
  refine law_lifted (C := Tryz.checked) (L := [(true, [.int .i64, .int .i64, .int .i64]), (false, [.int .i64]), (false, [.slice [.int .i64, .int .i64, .int .i64, .int .i64]]), (true, [.int .i64, .slice [.int .i64, .int .i64, .int .i64]])]) (tb := 4) own started (by kernel_rfl) Tryz.func8
    (ChangeSpec.witness6 (enc := enc) (C := Tryz.checked) false ⟨#[], #[.agg #[.int .i64 0, .int .i64 0, .int .i64 0], .int .i64 0, .slice none 0 0, .agg #[.int .i64 0, .slice none 0 0]], []⟩ 8 (by kernel_rfl) (by kernel_rfl) (by kernel_rfl) (by kernel_rfl))
    rfl (fun ds hds => ?_) laidOut (by kernel_rfl) (by kernel_rfl) (by kernel_rfl) (by kernel_rfl) (fun _ _ _ _ _ h => by cases h) ?_
  · exact PortCore_spec ds (Eq.trans hds f8_size)
  · intro gs hg
    obtain ⟨g, h, k, l, rfl, hg1, ⟨⟨mo, _, e1⟩, _⟩, hk1, hl1⟩ := hasArgs_four hg
    obtain ⟨c, n, kk, hc, hn, hkk, e2⟩ := plan_of hg1
    obtain ⟨N, G, hG, e3⟩ := ops_of hk1
    obtain ⟨id, M, T, hT, e4⟩ := tou_of hl1
    show CallOK PR n_law14_PortCore [.agg [.dv (g 0), .dv (g 1), .dv (g 2)], .dv (h 0), .dv (k 0), .agg [.dv (l 0), .dv (l 1)]] [] fun r _ => r = .dv (.bool true)
    rw [e1, e2, e3, e4]
    exact (ok_PortCore c n kk mo id N M G T hc hn hkk hG hT).ent fun r m h => ⟨r, m, Ent.refl _ _, h.1⟩

theorem PortCore_holds : Rows.PortCoreSaid :=
  OpenClaim.holds_of_wide n_law14_PortCore Tryz.f8 rfl rfl rfl rfl rfl rfl rfl ⟨rfl, rfl, rfl, rfl, rfl⟩ rfl rfl rfl rfl rfl (by kernel_rfl) Tryz.func8 (by kernel_rfl)
    (of_decide_eq_true (by kernel_rfl)) (by unfold Func.isWrapper; first | (rw [if_pos (by decide +kernel)]; kernel_rfl) | (rw [if_neg (by decide +kernel)]; exact ⟨rfl, rfl⟩))
    (fun os started H enc _ => PortCore_lifted os started H enc)

#print axioms PortCore_holds
end Go.Proofs.YtiaceoomiflgcaaGreat
