/-
  Walks: whether any diary is right, and which entries a channel has, is what the document says.
-/
import Derived.Test.YtophlodlencgiabDoorDiaE
namespace Go.Proofs.YtophlodlencgiabDoor
open Go.V
set_option linter.unusedVariables false
set_option linter.unusedSimpArgs false
set_option maxRecDepth 100000
set_option maxHeartbeats 8000000

theorem okR_Same_refl {n : Nat} {G : Nat → Nat → DV} (S : Ents n G) : CallOK (O := Ob) PR n_ref19_Same [.dv (.seq n 8 G), .dv (.seq n 8 G)] [] fun r m => r = .dv (.bool true) ∧ m = [] := by
  refine (okR_Same S S).mono ?_
  rintro r m ⟨⟨v, hv, rfl⟩, hm⟩
  rw [hv.2 S.same_refl]
  exact ⟨rfl, hm⟩

theorem ok_DiaryRight {n : Nat} {G : Nat → Nat → DV} (S : Ents n G) (a b : Int) : CallOK (O := Ob) PR n_law19_DiaryRight [.dv (.seq n 8 G), .dv (.int .i64 a), .dv (.int .i64 b)] [] fun r m => r = .dv (.bool true) ∧ m = [] := by
  obtain ⟨fw, hfw⟩ : ∃ p : Prop, p ↔ (¬ (100 : Int) < (n : Int) ∧ ∀ i, i < n → S.m i ≤ 100) := ⟨_, Iff.rfl⟩
  have hfew : CallOK (O := Ob) PR n_law19_Few [.dv (.seq n 8 G), .dv (.int .i64 100)] [] fun r m => (∃ v, (v = true ↔ fw) ∧ r = .dv (.bool v)) ∧ m = [] := (okR_Few S 100).mono fun r m h => by simpa only [hfw] using h
  by_cases hf : fw
  · have hf' := hfw.1 hf
    have hfew : CallOK (O := Ob) PR n_law19_Few [.dv (.seq n 8 G), .dv (.int .i64 100)] [] fun r m => r = .dv (.bool true) ∧ m = [] := hfew.mono fun r m ⟨⟨v, hv, e⟩, hm⟩ => ⟨by rw [e, hv.2 hf], hm⟩
    have hn : n ≤ 1000 := by omega
    have hof := ok_Of S hn (fun i hi => by have := hf'.2 i hi; omega) a b
    have hrof := okR_Of S hn a b
    have hr := ok_Right S
    have hrr := okR_Right S
    have hpl := okR_Plain S hn
    have hpa := okR_Plain (S.sub (S.isS a b)) (by have := pick_len (S.isS a b) n; omega)
    have hpb := okR_Plain (S.sub (S.isT a b)) (by have := pick_len (S.isT a b) n; omega)
    have hsa := okR_Same_refl (S.sub (S.isS a b))
    have hsb := okR_Same_refl (S.sub (S.isT a b))
    generalize (pick (S.isS a b) n).length = L1 at *
    generalize (pick (S.isT a b) n).length = L2 at *
    generalize Gp G (S.isS a b) n = G1 at *
    generalize Gp G (S.isT a b) n = G2 at *
    generalize S.right = rt at *
    clear hfw
    refine fn_walkv mixed fn_law19_DiaryRight (Ent.refl _ _) fun bin cmp un conv bnot beq band sel isel ofN toN inb nz nneg lt le room' slb add sub sbin scmp slen sget ssub addk pc pb pi pf ps mkok min_ ig aeq P hP hA hF Q hQ => ?_
    cbv
    repeat' first
      | (refine Chk.mk trivial ?_; cbv)
      | (refine bc_true (by first | assumption | (simp (disch := omega) only [hF, natc, Int.ofNat_eq_natCast, w64_in, decide_eq_true_eq, decide_eq_false_iff_not, Int.toNat_natCast, Bool.not_eq_true', Bool.not_eq_false', not_true_eq_false, not_false_eq_true, Int.not_lt, Int.not_le, Bool.and_eq_true, Bool.or_eq_true, Int.ofNat_lt, Int.ofNat_le, Int.natCast_nonneg, Int.toNat_zero, Int.toNat_one, Classical.not_not, beq_self_eq_true, true_and, and_true]; first | done | assumption | omega | (simp only [natc] at *; omega))) ?_; cbv)
      | (refine bc_false (by first | assumption | (simp (disch := omega) only [hF, natc, Int.ofNat_eq_natCast, w64_in, decide_eq_true_eq, decide_eq_false_iff_not, Int.toNat_natCast, Bool.not_eq_true', Bool.not_eq_false', not_true_eq_false, not_false_eq_true, Int.not_lt, Int.not_le, Bool.and_eq_true, Bool.or_eq_true, Int.ofNat_lt, Int.ofNat_le, Int.natCast_nonneg, Int.toNat_zero, Int.toNat_one, Classical.not_not, beq_self_eq_true, true_and, and_true]; first | done | assumption | omega | (simp only [natc] at *; omega))) ?_; cbv)
      | (refine bc_split (fun h => ?_) (fun h => ?_) <;> (try simp (disch := omega) only [hF, natc, Int.ofNat_eq_natCast, w64_in, decide_eq_true_eq, decide_eq_false_iff_not, Int.toNat_natCast, Bool.not_eq_true', Bool.not_eq_false', not_true_eq_false, not_false_eq_true, Int.not_lt, Int.not_le, Bool.and_eq_true, Bool.or_eq_true, Int.ofNat_lt, Int.ofNat_le, Int.natCast_nonneg, Int.toNat_zero, Int.toNat_one, Classical.not_not, beq_self_eq_true, true_and, and_true] at h) <;> cbv)
      | (refine IdxVC.mk (by simp (disch := omega) only [hF, natc, Int.ofNat_eq_natCast, w64_in, decide_eq_true_eq, decide_eq_false_iff_not, Int.toNat_natCast, Bool.not_eq_true', Bool.not_eq_false', not_true_eq_false, not_false_eq_true, Int.not_lt, Int.not_le, Bool.and_eq_true, Bool.or_eq_true, Int.ofNat_lt, Int.ofNat_le, Int.natCast_nonneg, Int.toNat_zero, Int.toNat_one, Classical.not_not, beq_self_eq_true, true_and, and_true]; first | done | omega | (simp only [natc] at *; omega)) (fun kx hk hk2 => ?_); simp (disch := omega) only [hF, natc, Int.ofNat_eq_natCast, w64_in, decide_eq_true_eq, decide_eq_false_iff_not, Int.toNat_natCast, Bool.not_eq_true', Bool.not_eq_false', not_true_eq_false, not_false_eq_true, Int.not_lt, Int.not_le, Bool.and_eq_true, Bool.or_eq_true, Int.ofNat_lt, Int.ofNat_le, Int.natCast_nonneg, Int.toNat_zero, Int.toNat_one, Classical.not_not, beq_self_eq_true, true_and, and_true] at hk; (try obtain rfl : kx = 0 := hk); cbv)
      | (refine Chk.mk (by simp (disch := omega) only [maxN, hF, natc, Int.ofNat_eq_natCast, w64_in, decide_eq_true_eq, decide_eq_false_iff_not, Int.toNat_natCast, Bool.not_eq_true', Bool.not_eq_false', not_true_eq_false, not_false_eq_true, Int.not_lt, Int.not_le, Bool.and_eq_true, Bool.or_eq_true, Int.ofNat_lt, Int.ofNat_le, Int.natCast_nonneg, Int.toNat_zero, Int.toNat_one, Classical.not_not, beq_self_eq_true, true_and, and_true]; first | done | assumption | omega | (simp only [natc] at *; omega)) ?_; cbv)
      | (intro (hmx : _ ≤ maxN); replace hmx : _ ≤ 17592186044416 := hmx; cbv)
      | (intro _; cbv)
      | (refine call_pure hP code_law19_Few (hfew) ?_ ?_; (focus (cbv; (try simp); done)); rintro _ rfl; cbv)
      | (refine call_pure hP code_law19_alive (ok_alive) ?_ ?_; (focus (cbv; (try simp); done)); rintro _ rfl; cbv)
      | (refine call_pure hP code_diary_Of (hof) ?_ ?_; (focus (cbv; (try simp); done)); rintro _ rfl; cbv)
      | (refine call_pure hP code_ref19_Of (hrof) ?_ ?_; (focus (cbv; (try simp); done)); rintro _ rfl; cbv)
      | (refine call_pure hP code_law19_Plain (hpl) ?_ ?_; (focus (cbv; (try simp); done)); rintro _ rfl; cbv)
      | (refine call_pure hP code_law19_Plain (hpa) ?_ ?_; (focus (cbv; (try simp); done)); rintro _ rfl; cbv)
      | (refine call_pure hP code_law19_Plain (hpb) ?_ ?_; (focus (cbv; (try simp); done)); rintro _ rfl; cbv)
      | (refine call_pure hP code_diary_Right (hr) ?_ ?_; (focus (cbv; (try simp); done)); rintro _ ⟨v1, hv1, rfl⟩; cbv)
      | (refine call_pure hP code_ref19_Right (hrr) ?_ ?_; (focus (cbv; (try simp); done)); rintro _ ⟨v2, hv2, rfl⟩; cbv)
      | (refine call_pure hP code_ref19_Same (hsa) ?_ ?_; (focus (cbv; (try simp); done)); rintro _ rfl; cbv)
      | (refine call_pure hP code_ref19_Same (hsb) ?_ ?_; (focus (cbv; (try simp); done)); rintro _ rfl; cbv)
      | (refine And.intro ?_ ?_ <;> cbv)
    · subst hQ; exact leaf_data rfl rfl ⟨rfl, rfl⟩
    · have e : v1 = v2 := by rw [Bool.eq_iff_iff, hv1, hv2]
      have h' : (v1 == v2) = false := by assumption
      rw [e] at h'; simp at h'
  · have hfew : CallOK (O := Ob) PR n_law19_Few [.dv (.seq n 8 G), .dv (.int .i64 100)] [] fun r m => r = .dv (.bool false) ∧ m = [] := hfew.mono fun r m ⟨⟨v, hv, e⟩, hm⟩ => ⟨by rw [e, Bool.eq_false_iff.2 fun h => hf (hv.1 h)], hm⟩
    refine fn_walkv mixed fn_law19_DiaryRight (Ent.refl _ _) fun bin cmp un conv bnot beq band sel isel ofN toN inb nz nneg lt le room' slb add sub sbin scmp slen sget ssub addk pc pb pi pf ps mkok min_ ig aeq P hP hA hF Q hQ => ?_
    cbv
    repeat' first
      | (refine Chk.mk trivial ?_; cbv)
      | (refine bc_true (by first | assumption | (simp (disch := omega) only [hF, natc, Int.ofNat_eq_natCast, w64_in, decide_eq_true_eq, decide_eq_false_iff_not, Int.toNat_natCast, Bool.not_eq_true', Bool.not_eq_false', not_true_eq_false, not_false_eq_true, Int.not_lt, Int.not_le, Bool.and_eq_true, Bool.or_eq_true, Int.ofNat_lt, Int.ofNat_le, Int.natCast_nonneg, Int.toNat_zero, Int.toNat_one, Classical.not_not, beq_self_eq_true, true_and, and_true]; first | done | assumption | omega | (simp only [natc] at *; omega))) ?_; cbv)
      | (refine bc_false (by first | assumption | (simp (disch := omega) only [hF, natc, Int.ofNat_eq_natCast, w64_in, decide_eq_true_eq, decide_eq_false_iff_not, Int.toNat_natCast, Bool.not_eq_true', Bool.not_eq_false', not_true_eq_false, not_false_eq_true, Int.not_lt, Int.not_le, Bool.and_eq_true, Bool.or_eq_true, Int.ofNat_lt, Int.ofNat_le, Int.natCast_nonneg, Int.toNat_zero, Int.toNat_one, Classical.not_not, beq_self_eq_true, true_and, and_true]; first | done | assumption | omega | (simp only [natc] at *; omega))) ?_; cbv)
      | (refine bc_split (fun h => ?_) (fun h => ?_) <;> (try simp (disch := omega) only [hF, natc, Int.ofNat_eq_natCast, w64_in, decide_eq_true_eq, decide_eq_false_iff_not, Int.toNat_natCast, Bool.not_eq_true', Bool.not_eq_false', not_true_eq_false, not_false_eq_true, Int.not_lt, Int.not_le, Bool.and_eq_true, Bool.or_eq_true, Int.ofNat_lt, Int.ofNat_le, Int.natCast_nonneg, Int.toNat_zero, Int.toNat_one, Classical.not_not, beq_self_eq_true, true_and, and_true] at h) <;> cbv)
      | (refine IdxVC.mk (by simp (disch := omega) only [hF, natc, Int.ofNat_eq_natCast, w64_in, decide_eq_true_eq, decide_eq_false_iff_not, Int.toNat_natCast, Bool.not_eq_true', Bool.not_eq_false', not_true_eq_false, not_false_eq_true, Int.not_lt, Int.not_le, Bool.and_eq_true, Bool.or_eq_true, Int.ofNat_lt, Int.ofNat_le, Int.natCast_nonneg, Int.toNat_zero, Int.toNat_one, Classical.not_not, beq_self_eq_true, true_and, and_true]; first | done | omega | (simp only [natc] at *; omega)) (fun kx hk hk2 => ?_); simp (disch := omega) only [hF, natc, Int.ofNat_eq_natCast, w64_in, decide_eq_true_eq, decide_eq_false_iff_not, Int.toNat_natCast, Bool.not_eq_true', Bool.not_eq_false', not_true_eq_false, not_false_eq_true, Int.not_lt, Int.not_le, Bool.and_eq_true, Bool.or_eq_true, Int.ofNat_lt, Int.ofNat_le, Int.natCast_nonneg, Int.toNat_zero, Int.toNat_one, Classical.not_not, beq_self_eq_true, true_and, and_true] at hk; (try obtain rfl : kx = 0 := hk); cbv)
      | (refine Chk.mk (by simp (disch := omega) only [maxN, hF, natc, Int.ofNat_eq_natCast, w64_in, decide_eq_true_eq, decide_eq_false_iff_not, Int.toNat_natCast, Bool.not_eq_true', Bool.not_eq_false', not_true_eq_false, not_false_eq_true, Int.not_lt, Int.not_le, Bool.and_eq_true, Bool.or_eq_true, Int.ofNat_lt, Int.ofNat_le, Int.natCast_nonneg, Int.toNat_zero, Int.toNat_one, Classical.not_not, beq_self_eq_true, true_and, and_true]; first | done | assumption | omega | (simp only [natc] at *; omega)) ?_; cbv)
      | (intro (hmx : _ ≤ maxN); replace hmx : _ ≤ 17592186044416 := hmx; cbv)
      | (intro _; cbv)
      | (refine call_pure hP code_law19_Few (hfew) ?_ ?_; (focus (cbv; (try simp); done)); rintro _ rfl; cbv)
      | (refine call_pure hP code_law19_alive (ok_alive) ?_ ?_; (focus (cbv; (try simp); done)); rintro _ rfl; cbv)
    subst hQ; exact leaf_data rfl rfl ⟨rfl, rfl⟩

end Go.Proofs.YtophlodlencgiabDoor
