/-
  A giver that is nil: the calls.
-/
import Derived.Test.YtjfkoehlhgdmgaaDoorGnB
import Derived.Test.YtjfkoehlhgdmgaaDoorVchE
import Derived.Test.YtjfkoehlhgdmgaaDoorVcgU
namespace Go.Proofs.YtjfkoehlhgdmgaaDoor
open Go.V
set_option linter.unusedVariables false
set_option linter.unusedSimpArgs false
set_option maxRecDepth 100000
set_option maxHeartbeats 8000000

theorem ok_Word (a : Int) : CallOK (O := Ob) PR n_wrap_Word [.dv (.int .i64 a)] [] fun r m => (∃ v, v = a % 65536 ∧ r = .dv (.int .i64 v)) ∧ m = [] := by
  refine fn_walk mixed fn_wrap_Word fun A P hA hP Q hQ => ?_
  cbv
  subst hQ hA
  exact ⟨⟨_, and_word a, rfl⟩, rfl⟩

theorem ok_CloneV {n : Nat} {g : Nat → Nat → DV} (hk : n ≤ 17592186044416) : CallOK (O := Ob) PR n_slices_Clone_Sint_int [.dv (.seq n 1 g)] [] fun r m => r = .vec 0 ∧ m = [.vec n 1 (fun x f => .dv (g x f))] := by
  refine fn_walkv mixed fn_slices_Clone_Sint_int (Ent.refl _ _) fun bin cmp un conv bnot beq band sel isel ofN toN inb nz nneg lt le room' slb add sub sbin scmp slen sget ssub addk pc pb pi pf ps mkok min_ ig aeq P hP hA hF Q hQ => ?_
  have hap : ∀ x f, x < n → f < 1 → appAt ⟨bin, cmp, un, conv, bnot, beq, band, sel, isel, ofN, toN, inb, nz, nneg, lt, le, room', slb, add, sub, sbin, scmp, slen, sget, ssub, addk, pc, pb, pi, pf, ps, mkok, min_, ig, aeq⟩ 0 (listAt 1 []) (dvAt g) x f = .dv (g x f) := by
    intro x f hx hf
    simp only [appAt, dvAt, hF, Nat.not_lt_zero, if_false, Nat.sub_zero]
  cbv
  intro b hb
  cbv
  repeat' first
    | (refine Chk.mk trivial ?_; cbv)
    | (refine bc_true (by first | assumption | (simp (disch := omega) only [hF, natc, w64_in, decide_eq_true_eq, decide_eq_false_iff_not, Int.toNat_natCast, Bool.not_eq_true', Bool.not_eq_false', not_true_eq_false, not_false_eq_true, Int.not_lt, Int.not_le, Bool.and_eq_true, Bool.or_eq_true, Int.ofNat_lt, Int.ofNat_le, Int.natCast_nonneg, Int.toNat_zero, Int.toNat_one, Classical.not_not, beq_self_eq_true, true_and, and_true]; first | done | assumption | omega | (simp only [natc] at *; omega))) ?_; cbv)
    | (refine bc_false (by first | assumption | (simp (disch := omega) only [hF, natc, w64_in, decide_eq_true_eq, decide_eq_false_iff_not, Int.toNat_natCast, Bool.not_eq_true', Bool.not_eq_false', not_true_eq_false, not_false_eq_true, Int.not_lt, Int.not_le, Bool.and_eq_true, Bool.or_eq_true, Int.ofNat_lt, Int.ofNat_le, Int.natCast_nonneg, Int.toNat_zero, Int.toNat_one, Classical.not_not, beq_self_eq_true, true_and, and_true]; first | done | assumption | omega | (simp only [natc] at *; omega))) ?_; cbv)
    | (refine bc_split (fun h => ?_) (fun h => ?_) <;> (try simp (disch := omega) only [hF, natc, w64_in, decide_eq_true_eq, decide_eq_false_iff_not, Int.toNat_natCast, Bool.not_eq_true', Bool.not_eq_false', not_true_eq_false, not_false_eq_true, Int.not_lt, Int.not_le, Bool.and_eq_true, Bool.or_eq_true, Int.ofNat_lt, Int.ofNat_le, Int.natCast_nonneg, Int.toNat_zero, Int.toNat_one, Classical.not_not, beq_self_eq_true, true_and, and_true] at h) <;> cbv)
    | (refine IdxVC.mk (by simp (disch := omega) only [hF, natc, w64_in, decide_eq_true_eq, decide_eq_false_iff_not, Int.toNat_natCast, Bool.not_eq_true', Bool.not_eq_false', not_true_eq_false, not_false_eq_true, Int.not_lt, Int.not_le, Bool.and_eq_true, Bool.or_eq_true, Int.ofNat_lt, Int.ofNat_le, Int.natCast_nonneg, Int.toNat_zero, Int.toNat_one, Classical.not_not, beq_self_eq_true, true_and, and_true]; first | done | omega | (simp only [natc] at *; omega)) (fun kx hk hk2 => ?_); simp (disch := omega) only [hF, natc, w64_in, decide_eq_true_eq, decide_eq_false_iff_not, Int.toNat_natCast, Bool.not_eq_true', Bool.not_eq_false', not_true_eq_false, not_false_eq_true, Int.not_lt, Int.not_le, Bool.and_eq_true, Bool.or_eq_true, Int.ofNat_lt, Int.ofNat_le, Int.natCast_nonneg, Int.toNat_zero, Int.toNat_one, Classical.not_not, beq_self_eq_true, true_and, and_true] at hk; (try obtain rfl : kx = 0 := hk); cbv)
    | (refine Chk.mk (by simp (disch := omega) only [maxN, hF, natc, w64_in, decide_eq_true_eq, decide_eq_false_iff_not, Int.toNat_natCast, Bool.not_eq_true', Bool.not_eq_false', not_true_eq_false, not_false_eq_true, Int.not_lt, Int.not_le, Bool.and_eq_true, Bool.or_eq_true, Int.ofNat_lt, Int.ofNat_le, Int.natCast_nonneg, Int.toNat_zero, Int.toNat_one, Classical.not_not, beq_self_eq_true, true_and, and_true]; first | done | assumption | omega | (simp only [natc] at *; omega)) ?_; cbv)
    | (intro (hmx : _ ≤ maxN); replace hmx : _ ≤ 17592186044416 := hmx; cbv)
    | (intro _; cbv)
  · subst hQ
    obtain rfl : n = 0 := by
      rcases Nat.eq_zero_or_pos n with h0 | h0
      · exact h0
      · have := hb h0; simp_all
    exact ⟨_, _, Ent.nilv 0 1 (fun x f => .dv (g x f)) rfl, rfl, rfl⟩
  · subst hQ
    refine ⟨_, _, Ent.ren (s' := ⟨[.vec 0], [.vec n 1 (fun x f => .dv (g x f))]⟩) [1] rfl rfl ⟨⟨by simp only [hF]; omega, rfl, fun x f hx hf => hap x f (by simp only [hF] at hx; omega) hf⟩, trivial⟩ ⟨rfl, trivial⟩, rfl, rfl⟩

theorem ok_words {n : Nat} {g : Nat → Nat → DV} (hk : n ≤ 17592186044416) (x0 : Nat → Int) (hg : ∀ i, i < n → g i 0 = .int .i64 (x0 i)) :
    CallOK (O := Ob) PR n_port_words [.dv (.seq n 1 g)] [] fun r m => (∃ h, r = .dv (.seq n 1 h)) ∧ m = [] := by
  obtain ⟨W, hW⟩ : ∃ W : Nat → Int, ∀ i, W i = x0 i % 65536 := ⟨_, fun _ => rfl⟩
  obtain ⟨H, hH0, hH1⟩ : ∃ H : Nat → Nat → Nat → DV, (∀ x f, H 0 x f = g x f) ∧ ∀ i x f, f < 1 → H (i + 1) x f = if x = i then .int .i64 (W i) else H i x f := by
    refine ⟨fun i x f => if x < i then .int .i64 (W x) else g x f, fun x f => by simp, fun i x f _ => ?_⟩
    by_cases h1 : x = i
    · subst h1; simp
    · have : (x < i + 1) = (x < i) := by rw [eq_iff_iff]; omega
      simp [h1, this]
  have hHg : ∀ i x f, i ≤ x → f < 1 → H i x f = g x f := by
    intro i
    induction i with
    | zero => intro x f _ _; exact hH0 x f
    | succ i ih => intro x f hx hf; rw [hH1 i x f hf, if_neg (by omega)]; exact ih x f (by omega) hf
  have hcl := ok_CloneV (n := n) (g := g) hk
  refine fn_walkv mixed fn_port_words (Ent.refl _ _) fun bin cmp un conv bnot beq band sel isel ofN toN inb nz nneg lt le room' slb add sub sbin scmp slen sget ssub addk pc pb pi pf ps mkok min_ ig aeq P hP hA hF Q hQ => ?_
  cbv
  repeat' first
    | (refine Chk.mk trivial ?_; cbv)
    | (refine bc_true (by first | assumption | (simp (disch := omega) only [hF, natc, w64_in, decide_eq_true_eq, decide_eq_false_iff_not, Int.toNat_natCast, Bool.not_eq_true', Bool.not_eq_false', not_true_eq_false, not_false_eq_true, Int.not_lt, Int.not_le, Bool.and_eq_true, Bool.or_eq_true, Int.ofNat_lt, Int.ofNat_le, Int.natCast_nonneg, Int.toNat_zero, Int.toNat_one, Classical.not_not, beq_self_eq_true, true_and, and_true]; first | done | assumption | omega | (simp only [natc] at *; omega))) ?_; cbv)
    | (refine bc_false (by first | assumption | (simp (disch := omega) only [hF, natc, w64_in, decide_eq_true_eq, decide_eq_false_iff_not, Int.toNat_natCast, Bool.not_eq_true', Bool.not_eq_false', not_true_eq_false, not_false_eq_true, Int.not_lt, Int.not_le, Bool.and_eq_true, Bool.or_eq_true, Int.ofNat_lt, Int.ofNat_le, Int.natCast_nonneg, Int.toNat_zero, Int.toNat_one, Classical.not_not, beq_self_eq_true, true_and, and_true]; first | done | assumption | omega | (simp only [natc] at *; omega))) ?_; cbv)
    | (refine bc_split (fun h => ?_) (fun h => ?_) <;> (try simp (disch := omega) only [hF, natc, w64_in, decide_eq_true_eq, decide_eq_false_iff_not, Int.toNat_natCast, Bool.not_eq_true', Bool.not_eq_false', not_true_eq_false, not_false_eq_true, Int.not_lt, Int.not_le, Bool.and_eq_true, Bool.or_eq_true, Int.ofNat_lt, Int.ofNat_le, Int.natCast_nonneg, Int.toNat_zero, Int.toNat_one, Classical.not_not, beq_self_eq_true, true_and, and_true] at h) <;> cbv)
    | (refine IdxVC.mk (by simp (disch := omega) only [hF, natc, w64_in, decide_eq_true_eq, decide_eq_false_iff_not, Int.toNat_natCast, Bool.not_eq_true', Bool.not_eq_false', not_true_eq_false, not_false_eq_true, Int.not_lt, Int.not_le, Bool.and_eq_true, Bool.or_eq_true, Int.ofNat_lt, Int.ofNat_le, Int.natCast_nonneg, Int.toNat_zero, Int.toNat_one, Classical.not_not, beq_self_eq_true, true_and, and_true]; first | done | omega | (simp only [natc] at *; omega)) (fun kx hk hk2 => ?_); simp (disch := omega) only [hF, natc, w64_in, decide_eq_true_eq, decide_eq_false_iff_not, Int.toNat_natCast, Bool.not_eq_true', Bool.not_eq_false', not_true_eq_false, not_false_eq_true, Int.not_lt, Int.not_le, Bool.and_eq_true, Bool.or_eq_true, Int.ofNat_lt, Int.ofNat_le, Int.natCast_nonneg, Int.toNat_zero, Int.toNat_one, Classical.not_not, beq_self_eq_true, true_and, and_true] at hk; (try obtain rfl : kx = 0 := hk); cbv)
    | (refine Chk.mk (by simp (disch := omega) only [maxN, hF, natc, w64_in, decide_eq_true_eq, decide_eq_false_iff_not, Int.toNat_natCast, Bool.not_eq_true', Bool.not_eq_false', not_true_eq_false, not_false_eq_true, Int.not_lt, Int.not_le, Bool.and_eq_true, Bool.or_eq_true, Int.ofNat_lt, Int.ofNat_le, Int.natCast_nonneg, Int.toNat_zero, Int.toNat_one, Classical.not_not, beq_self_eq_true, true_and, and_true]; first | done | assumption | omega | (simp only [natc] at *; omega)) ?_; cbv)
    | (intro (hmx : _ ≤ maxN); replace hmx : _ ≤ 17592186044416 := hmx; cbv)
    | (intro _; cbv)
    | (refine call_at hP [] code_slices_Clone_Sint_int (hcl) rfl ?_ ?_ ?_; (focus ((repeat' (first | exact trivial | exact rfl | (intro _ _ _ _; exact rfl) | refine And.intro ?_ ?_)); done)); (focus (cbv; (try simp); done)); rintro _ _ ⟨rfl, rfl⟩ _; cbv)
  refine loop_up mixed hP hA (n) (fun _ => True) [4, 5, 10, 11, 12, 13, 14, 15, 16, 17, 18, 19, 20] (fun i => [(10, .dv (.int .i64 (ofN i)))]) (fun i => [.vec n 1 (fun x f => .dv (H i x f))]) (trivial) ?_ fun Nx i hN hi hp => ?_
  · exact Ent.ren [0] rfl rfl ⟨⟨rfl, rfl, fun x f _ _ => by show SV.dv (g x f) = .dv (H 0 x f); rw [hH0]⟩, trivial⟩ (by cbv; simp [hF])
  · cbv
    by_cases hlt : i < n
    · have hgi : H i i 0 = .int .i64 (x0 i) := by rw [hHg i i 0 (Nat.le_refl _) (by omega)]; exact hg i hlt
      cbv
      repeat' first
        | (refine Chk.mk trivial ?_; cbv)
        | (refine bc_true (by first | assumption | (simp (disch := omega) only [hF, natc, w64_in, decide_eq_true_eq, decide_eq_false_iff_not, Int.toNat_natCast, Bool.not_eq_true', Bool.not_eq_false', not_true_eq_false, not_false_eq_true, Int.not_lt, Int.not_le, Bool.and_eq_true, Bool.or_eq_true, Int.ofNat_lt, Int.ofNat_le, Int.natCast_nonneg, Int.toNat_zero, Int.toNat_one, Classical.not_not, beq_self_eq_true, true_and, and_true]; first | done | assumption | omega | (simp only [natc] at *; omega))) ?_; cbv)
        | (refine bc_false (by first | assumption | (simp (disch := omega) only [hF, natc, w64_in, decide_eq_true_eq, decide_eq_false_iff_not, Int.toNat_natCast, Bool.not_eq_true', Bool.not_eq_false', not_true_eq_false, not_false_eq_true, Int.not_lt, Int.not_le, Bool.and_eq_true, Bool.or_eq_true, Int.ofNat_lt, Int.ofNat_le, Int.natCast_nonneg, Int.toNat_zero, Int.toNat_one, Classical.not_not, beq_self_eq_true, true_and, and_true]; first | done | assumption | omega | (simp only [natc] at *; omega))) ?_; cbv)
        | (refine bc_split (fun h => ?_) (fun h => ?_) <;> (try simp (disch := omega) only [hF, natc, w64_in, decide_eq_true_eq, decide_eq_false_iff_not, Int.toNat_natCast, Bool.not_eq_true', Bool.not_eq_false', not_true_eq_false, not_false_eq_true, Int.not_lt, Int.not_le, Bool.and_eq_true, Bool.or_eq_true, Int.ofNat_lt, Int.ofNat_le, Int.natCast_nonneg, Int.toNat_zero, Int.toNat_one, Classical.not_not, beq_self_eq_true, true_and, and_true] at h) <;> cbv)
        | (refine IdxVC.mk (by simp (disch := omega) only [hF, natc, w64_in, decide_eq_true_eq, decide_eq_false_iff_not, Int.toNat_natCast, Bool.not_eq_true', Bool.not_eq_false', not_true_eq_false, not_false_eq_true, Int.not_lt, Int.not_le, Bool.and_eq_true, Bool.or_eq_true, Int.ofNat_lt, Int.ofNat_le, Int.natCast_nonneg, Int.toNat_zero, Int.toNat_one, Classical.not_not, beq_self_eq_true, true_and, and_true]; first | done | omega | (simp only [natc] at *; omega)) (fun kx hk hk2 => ?_); simp (disch := omega) only [hF, natc, w64_in, decide_eq_true_eq, decide_eq_false_iff_not, Int.toNat_natCast, Bool.not_eq_true', Bool.not_eq_false', not_true_eq_false, not_false_eq_true, Int.not_lt, Int.not_le, Bool.and_eq_true, Bool.or_eq_true, Int.ofNat_lt, Int.ofNat_le, Int.natCast_nonneg, Int.toNat_zero, Int.toNat_one, Classical.not_not, beq_self_eq_true, true_and, and_true] at hk; (try obtain rfl : kx = 0 := hk); (try obtain rfl : i = kx := hk.symm); cbv)
        | (rw [hgi] <;> first | assumption | cbv)
        | (refine Chk.mk (by simp (disch := omega) only [maxN, hF, natc, w64_in, decide_eq_true_eq, decide_eq_false_iff_not, Int.toNat_natCast, Bool.not_eq_true', Bool.not_eq_false', not_true_eq_false, not_false_eq_true, Int.not_lt, Int.not_le, Bool.and_eq_true, Bool.or_eq_true, Int.ofNat_lt, Int.ofNat_le, Int.natCast_nonneg, Int.toNat_zero, Int.toNat_one, Classical.not_not, beq_self_eq_true, true_and, and_true]; first | done | assumption | omega | (simp only [natc] at *; omega)) ?_; cbv)
        | (intro (hmx : _ ≤ maxN); replace hmx : _ ≤ 17592186044416 := hmx; cbv)
        | (intro _; cbv)
        | (refine call_pure hP code_wrap_Word ((ok_Word (x0 i))) ?_ ?_; (focus (cbv; (try simp); done)); rintro _ ⟨w, hw, rfl⟩; cbv)
      refine hN _ hlt trivial (Ent.ren [0] rfl rfl ⟨⟨rfl, rfl, fun x f hx hf => ?_⟩, trivial⟩ (by cbv; simp (disch := omega) [hF, natc, w64_in]))
      have hX := hH1 i x f hf
      obtain rfl : f = 0 := by omega
      show VLe [0] (updRow (fun x f => SV.dv (H i x f)) i 0 [SV.dv (DV.int IntKind.i64 w)] x 0) (SV.dv (H (i + 1) x 0))
      by_cases hxi : x = i
      · subst hxi
        rw [hX, if_pos rfl, hW, ← hw]
        simp [updRow]; rfl
      · rw [hX, if_neg hxi]
        simp [updRow, hxi]; rfl
    · obtain rfl : i = n := by omega
      cbv
      repeat' first
        | (refine Chk.mk trivial ?_; cbv)
        | (refine bc_true (by first | assumption | (simp (disch := omega) only [hF, natc, w64_in, decide_eq_true_eq, decide_eq_false_iff_not, Int.toNat_natCast, Bool.not_eq_true', Bool.not_eq_false', not_true_eq_false, not_false_eq_true, Int.not_lt, Int.not_le, Bool.and_eq_true, Bool.or_eq_true, Int.ofNat_lt, Int.ofNat_le, Int.natCast_nonneg, Int.toNat_zero, Int.toNat_one, Classical.not_not, beq_self_eq_true, true_and, and_true]; first | done | assumption | omega | (simp only [natc] at *; omega))) ?_; cbv)
        | (refine bc_false (by first | assumption | (simp (disch := omega) only [hF, natc, w64_in, decide_eq_true_eq, decide_eq_false_iff_not, Int.toNat_natCast, Bool.not_eq_true', Bool.not_eq_false', not_true_eq_false, not_false_eq_true, Int.not_lt, Int.not_le, Bool.and_eq_true, Bool.or_eq_true, Int.ofNat_lt, Int.ofNat_le, Int.natCast_nonneg, Int.toNat_zero, Int.toNat_one, Classical.not_not, beq_self_eq_true, true_and, and_true]; first | done | assumption | omega | (simp only [natc] at *; omega))) ?_; cbv)
        | (refine bc_split (fun h => ?_) (fun h => ?_) <;> (try simp (disch := omega) only [hF, natc, w64_in, decide_eq_true_eq, decide_eq_false_iff_not, Int.toNat_natCast, Bool.not_eq_true', Bool.not_eq_false', not_true_eq_false, not_false_eq_true, Int.not_lt, Int.not_le, Bool.and_eq_true, Bool.or_eq_true, Int.ofNat_lt, Int.ofNat_le, Int.natCast_nonneg, Int.toNat_zero, Int.toNat_one, Classical.not_not, beq_self_eq_true, true_and, and_true] at h) <;> cbv)
        | (refine IdxVC.mk (by simp (disch := omega) only [hF, natc, w64_in, decide_eq_true_eq, decide_eq_false_iff_not, Int.toNat_natCast, Bool.not_eq_true', Bool.not_eq_false', not_true_eq_false, not_false_eq_true, Int.not_lt, Int.not_le, Bool.and_eq_true, Bool.or_eq_true, Int.ofNat_lt, Int.ofNat_le, Int.natCast_nonneg, Int.toNat_zero, Int.toNat_one, Classical.not_not, beq_self_eq_true, true_and, and_true]; first | done | omega | (simp only [natc] at *; omega)) (fun kx hk hk2 => ?_); simp (disch := omega) only [hF, natc, w64_in, decide_eq_true_eq, decide_eq_false_iff_not, Int.toNat_natCast, Bool.not_eq_true', Bool.not_eq_false', not_true_eq_false, not_false_eq_true, Int.not_lt, Int.not_le, Bool.and_eq_true, Bool.or_eq_true, Int.ofNat_lt, Int.ofNat_le, Int.natCast_nonneg, Int.toNat_zero, Int.toNat_one, Classical.not_not, beq_self_eq_true, true_and, and_true] at hk; (try obtain rfl : kx = 0 := hk); cbv)
        | (refine Chk.mk (by simp (disch := omega) only [maxN, hF, natc, w64_in, decide_eq_true_eq, decide_eq_false_iff_not, Int.toNat_natCast, Bool.not_eq_true', Bool.not_eq_false', not_true_eq_false, not_false_eq_true, Int.not_lt, Int.not_le, Bool.and_eq_true, Bool.or_eq_true, Int.ofNat_lt, Int.ofNat_le, Int.natCast_nonneg, Int.toNat_zero, Int.toNat_one, Classical.not_not, beq_self_eq_true, true_and, and_true]; first | done | assumption | omega | (simp only [natc] at *; omega)) ?_; cbv)
        | (intro (hmx : _ ≤ maxN); replace hmx : _ ≤ 17592186044416 := hmx; cbv)
        | (intro _; cbv)
      subst hQ
      exact leaf_frz 0 (H i) rfl (fun _ _ _ _ => rfl) rfl rfl rfl ⟨⟨_, rfl⟩, rfl⟩

end Go.Proofs.YtjfkoehlhgdmgaaDoor
