/-
  When a core gets a lock or frees one, none of its stores waits, and what it stored stands in the memory: SocLocked. It answers true at every input, and leaves its arguments as they were. No condition.
-/
import Derived.Test.YtiaceoomiflgcaaGreatRows
import Derived.Test.YtiaceoomiflgcaaGreatVcgW
import Derived.Test.YtiaceoomiflgcaaGreatSdX
namespace Go.Proofs.YtiaceoomiflgcaaGreat
open Go.V

theorem own : ownKnob Tryz.prog.godebug = none := by kernel_rfl
theorem laidOut : laidOutB Tryz.prog = true := by kernel_rfl
theorem f4_size : Tryz.f4.params.size = 3 := by kernel_rfl

theorem SocLocked_spec {H : Type} (ds : List (DataW H)) (h : ds.length = 3) : Rows.socLockedSpec.fn H ds = { results := [.lit (.bool true)], args := ds } := by
  match ds, h with
  | [a, b, c], _ => rfl

theorem SocLocked_lifted (os : Os) (started : os.Started) (H : Type) (enc : TypeId × Value → H) :
    ReturnsInHanded {} Tryz.checked os n_law12_SocLocked .any (Rows.socLockedSpec.pre6 enc Tryz.prog Tryz.f4 Rows.socLockedRow.domain false) (Rows.socLockedSpec.post enc Tryz.prog Tryz.f4 false true false false) := by
  refine law_lifted (C := Tryz.checked) (L := [(true, [.int .i64, .int .i64, .int .i64]), (false, [.int .i64]), (true, [.slice [.int .i64, .int .i64, .int .i64, .int .i64], .int .i64, .int .i64])]) (tb := 4) own started (by kernel_rfl) Tryz.func4
    (ChangeSpec.witness6 (enc := enc) (C := Tryz.checked) false ⟨#[], #[.agg #[.int .i64 0, .int .i64 0, .int .i64 0], .int .i64 0, .agg #[.slice none 0 0, .int .i64 0, .int .i64 0]], []⟩ 8 (by kernel_rfl) (by kernel_rfl) (by kernel_rfl) (by kernel_rfl))
    rfl (fun ds hds => ?_) laidOut (by kernel_rfl) (by kernel_rfl) (by kernel_rfl) (by kernel_rfl) (fun _ _ _ _ _ h => by cases h) ?_
  · exact SocLocked_spec ds (Eq.trans hds f4_size)
  · intro gs hg
    obtain ⟨g, h, k, rfl, hg1, ⟨⟨mo, _, e1⟩, _⟩, hk1⟩ := hasArgs_three hg
    obtain ⟨c, n, kk, hc, hn, hkk, e2⟩ := plan_of hg1
    obtain ⟨N, G, i, a, hG, e3⟩ := locking_of hk1
    show CallOK PR n_law12_SocLocked [.agg [.dv (g 0), .dv (g 1), .dv (g 2)], .dv (h 0), .agg [.dv (k 0), .dv (k 1), .dv (k 2)]] [] fun r _ => r = .dv (.bool true)
    rw [e1, e2, e3]
    exact (ok_SocLocked c n kk mo i a N G hc hn hkk hG).ent fun r m h => ⟨r, m, Ent.refl _ _, h.1⟩

theorem SocLocked_holds : Rows.SocLockedSaid :=
  OpenClaim.holds_of_wide n_law12_SocLocked Tryz.f4 rfl rfl rfl rfl rfl rfl rfl ⟨rfl, rfl, rfl, rfl, rfl⟩ rfl rfl rfl rfl rfl (by kernel_rfl) Tryz.func4 (by kernel_rfl)
    (of_decide_eq_true (by kernel_rfl)) (by unfold Func.isWrapper; first | (rw [if_pos (by decide +kernel)]; kernel_rfl) | (rw [if_neg (by decide +kernel)]; exact ⟨rfl, rfl⟩))
    (fun os started H enc _ => SocLocked_lifted os started H enc)

#print axioms SocLocked_holds
end Go.Proofs.YtiaceoomiflgcaaGreat
