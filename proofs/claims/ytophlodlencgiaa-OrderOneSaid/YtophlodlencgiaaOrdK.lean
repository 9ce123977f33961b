/-
  Walks: what a call does, by the document.
-/
import Derived.Test.YtophlodlencgiaaOrdJ
import Derived.Test.YtophlodlencgiaaVchC
namespace Go.Proofs.Ytophlodlencgiaa
open Go.V
set_option linter.unusedVariables false
set_option linter.unusedSimpArgs false
set_option maxRecDepth 100000
set_option maxHeartbeats 8000000

/-- What is told of a call: whether it is possible; of a possible one, the queue behind it. -/
def doesR (room pu go ba kd en er : Int) (same : Bool) (p : Nat) (L : Nat → DV) (ld : DV) (r : SV) : Prop :=
  ∃ (room' pu' go' ba' : Int) (p' : Nat) (L' : Nat → Nat → DV) (v : Bool), r = .tup [.agg [.dv (.int .i64 room'), .dv (.seq p' 1 L'), .dv (.int .i64 pu'), .dv (.int .i64 go'), .dv (.int .i64 ba')], .dv (.bool v)] ∧
    v = (doesI room pu go ba kd en er same).2 ∧ (v = true → room' = room ∧ (pu', go', ba') = (doesI room pu go ba kd en er same).1 ∧
      ((kd = 1 ∧ (en = 0 ∨ er = 0) → p' = p + 1 ∧ (∀ j, j < p → L' j 0 = L j) ∧ L' p 0 = ld) ∧ (¬ (kd = 1 ∧ (en = 0 ∨ er = 0)) → p' = p ∧ ∀ j, j < p → L' j 0 = L j)))

set_option maxRecDepth 100000 in
set_option maxHeartbeats 8000000 in
theorem okR_Does (room : Int) (hroom : -9223372036854775808 ≤ room ∧ room ≤ 9223372036854775807) (p : Nat) (lm : Nat → Nat) (lg : Nat → Nat → Nat → DV) (lx : Nat → Nat → Int) (L : Nat → Nat → DV) (hL : ∀ j, j < p → L j 0 = .seq (lm j) 1 (lg j)) (hl : ∀ j, j < p → ∀ i, i < lm j → lg j i 0 = .int .i64 (lx j i)) (hp : p < 1000)
    (pu go ba : Int) (hpu : pu.toNat = p) (h0 : 0 ≤ ba) (h1 : ba ≤ go) (h2 : go ≤ pu) (a0 a1 kd a3 en er : Int) (m : Nat) (g : Nat → Nat → DV) (x : Nat → Int) (hg : ∀ i, i < m → g i 0 = .int .i64 (x i)) (a7 : Int) :
    CallOK (O := Ob) PR n_ref21_Does [.agg [.dv (.int .i64 room), .dv (.seq p 1 L), .dv (.int .i64 pu), .dv (.int .i64 go), .dv (.int .i64 ba)],
      .agg [.dv (.int .i64 a0), .dv (.int .i64 a1), .dv (.int .i64 kd), .dv (.int .i64 a3), .dv (.int .i64 en), .dv (.int .i64 er), .dv (.seq m 1 g), .dv (.int .i64 a7)]] []
      fun r mem => doesR room pu go ba kd en er (sameW (lm go.toNat) (lx go.toNat) m x) p (fun j => L j 0) (.seq m 1 g) r ∧ mem = [] := by
  refine fn_walkv mixed fn_ref21_Does (Ent.refl _ _) fun bin cmp un conv bnot beq band sel isel ofN toN inb nz nneg lt le room' slb add sub sbin scmp slen sget ssub addk pc pb pi pf ps mkok min_ ig aeq P hP hA hF Q hQ => ?_
  have hrm : room' p 24 ∧ room' (add p 1) 24 := by simp [hF, maxN]; omega
  generalize hs : sameW (lm go.toNat) (lx go.toNat) m x = same at hQ
  have hap : ∀ j f, j < p + 1 → f < 1 → appAt ⟨bin, cmp, un, conv, bnot, beq, band, sel, isel, ofN, toN, inb, nz, nneg, lt, le, room', slb, add, sub, sbin, scmp, slen, sget, ssub, addk, pc, pb, pi, pf, ps, mkok, min_, ig, aeq⟩ p (dvAt L) (listAt 1 [.dv (.seq m 1 g)]) j f = .dv (if j < p then L j 0 else .seq m 1 g) := by
    intro j f hj hf
    obtain rfl : f = 0 := by omega
    simp only [appAt, dvAt]
    by_cases h : j < p
    · rw [if_pos h, if_pos h]
    · obtain rfl : j = p := by omega
      rw [if_neg h, if_neg h]; simp [hF, listAt, lget]
  cbv
  repeat' first
    | (refine Chk.mk trivial ?_; cbv)
    | (refine bc_true (by first | assumption | (simp (disch := omega) only [hF, natc, Int.ofNat_eq_natCast, w64_in, decide_eq_true_eq, decide_eq_false_iff_not, Int.toNat_natCast, Bool.not_eq_true', Bool.not_eq_false', not_true_eq_false, not_false_eq_true, Int.not_lt, Int.not_le, Bool.and_eq_true, Bool.or_eq_true, Int.ofNat_lt, Int.ofNat_le, Int.natCast_nonneg, Int.toNat_zero, Int.toNat_one, Classical.not_not, beq_self_eq_true, true_and, and_true]; first | done | assumption | omega | (simp only [natc] at *; omega))) ?_; cbv)
    | (refine bc_false (by first | assumption | (simp (disch := omega) only [hF, natc, Int.ofNat_eq_natCast, w64_in, decide_eq_true_eq, decide_eq_false_iff_not, Int.toNat_natCast, Bool.not_eq_true', Bool.not_eq_false', not_true_eq_false, not_false_eq_true, Int.not_lt, Int.not_le, Bool.and_eq_true, Bool.or_eq_true, Int.ofNat_lt, Int.ofNat_le, Int.natCast_nonneg, Int.toNat_zero, Int.toNat_one, Classical.not_not, beq_self_eq_true, true_and, and_true]; first | done | assumption | omega | (simp only [natc] at *; omega))) ?_; cbv)
    | (refine bc_split (fun h => ?_) (fun h => ?_) <;> (try simp (disch := omega) only [hF, natc, Int.ofNat_eq_natCast, w64_in, decide_eq_true_eq, decide_eq_false_iff_not, Int.toNat_natCast, Bool.not_eq_true', Bool.not_eq_false', not_true_eq_false, not_false_eq_true, Int.not_lt, Int.not_le, Bool.and_eq_true, Bool.or_eq_true, Int.ofNat_lt, Int.ofNat_le, Int.natCast_nonneg, Int.toNat_zero, Int.toNat_one, Classical.not_not, beq_self_eq_true, true_and, and_true] at h) <;> cbv)
    | (refine IdxVC.mk (by simp (disch := omega) only [hF, natc, Int.ofNat_eq_natCast, w64_in, decide_eq_true_eq, decide_eq_false_iff_not, Int.toNat_natCast, Bool.not_eq_true', Bool.not_eq_false', not_true_eq_false, not_false_eq_true, Int.not_lt, Int.not_le, Bool.and_eq_true, Bool.or_eq_true, Int.ofNat_lt, Int.ofNat_le, Int.natCast_nonneg, Int.toNat_zero, Int.toNat_one, Classical.not_not, beq_self_eq_true, true_and, and_true]; first | done | omega | (simp only [natc] at *; omega)) (fun kx hk hk2 => ?_); simp (disch := omega) only [hF, natc, Int.ofNat_eq_natCast, w64_in, decide_eq_true_eq, decide_eq_false_iff_not, Int.toNat_natCast, Bool.not_eq_true', Bool.not_eq_false', not_true_eq_false, not_false_eq_true, Int.not_lt, Int.not_le, Bool.and_eq_true, Bool.or_eq_true, Int.ofNat_lt, Int.ofNat_le, Int.natCast_nonneg, Int.toNat_zero, Int.toNat_one, Classical.not_not, beq_self_eq_true, true_and, and_true] at hk; (try obtain rfl : kx = 0 := hk); cbv)
    | (rw [hL] <;> first | assumption | cbv)
    | (refine Chk.mk (by simp (disch := omega) only [maxN, hF, natc, Int.ofNat_eq_natCast, w64_in, decide_eq_true_eq, decide_eq_false_iff_not, Int.toNat_natCast, Bool.not_eq_true', Bool.not_eq_false', not_true_eq_false, not_false_eq_true, Int.not_lt, Int.not_le, Bool.and_eq_true, Bool.or_eq_true, Int.ofNat_lt, Int.ofNat_le, Int.natCast_nonneg, Int.toNat_zero, Int.toNat_one, Classical.not_not, beq_self_eq_true, true_and, and_true]; first | done | assumption | omega | (simp only [natc] at *; omega)) ?_; cbv)
    | (intro (hmx : _ ≤ maxN); replace hmx : _ ≤ 17592186044416 := hmx; cbv)
    | (intro _; cbv)
    | ((refine Chk.mk (by first | exact hrm.1 | exact hrm.2) ?_); cbv)
    | ((intro _); cbv)
    | ((refine call_pure hP code_ref21_same (okR_same (lm kx) (lg kx) (lx kx) (hl kx hk2) m g x hg) (by cbv; all_goals simp) ?_; rintro _ ⟨v, hv, rfl⟩); cbv)
  all_goals first
    | (subst hQ; refine leaf_data rfl rfl ⟨⟨_, _, _, _, _, _, _, rfl, ?_, ?_⟩, rfl⟩ <;> simp (disch := omega) [hF, w64_in, doesI, *] <;> omega; done)
    | (rw [hk, hs] at hv; subst hv; subst hQ; refine leaf_data rfl rfl ⟨⟨_, _, _, _, _, _, _, rfl, ?_, ?_⟩, rfl⟩ <;> simp (disch := omega) [hF, w64_in, doesI, *] <;> omega; done)
    | skip
  · subst hQ
    refine leaf_frz 5 (fun j _ => if j < p then L j 0 else .seq m 1 g) rfl (fun i f hi hf => hap i f (by simpa [hF] using hi) hf) rfl rfl rfl ⟨⟨_, _, _, _, _, _, _, rfl, ?_, fun _ => ⟨rfl, ?_, fun _ => ⟨by simp [hF], fun j hj => if_pos hj, if_neg (Nat.lt_irrefl p)⟩, fun h => ?_⟩⟩, rfl⟩ <;> simp (disch := omega) [hF, w64_in, doesI, *] <;> omega
  · subst hQ
    refine leaf_frz 5 (fun j _ => if j < p then L j 0 else .seq m 1 g) rfl (fun i f hi hf => hap i f (by simpa [hF] using hi) hf) rfl rfl rfl ⟨⟨_, _, _, _, _, _, _, rfl, ?_, fun _ => ⟨rfl, ?_, fun _ => ⟨by simp [hF], fun j hj => if_pos hj, if_neg (Nat.lt_irrefl p)⟩, fun h => ?_⟩⟩, rfl⟩ <;> simp (disch := omega) [hF, w64_in, doesI, *] <;> omega

end Go.Proofs.Ytophlodlencgiaa
