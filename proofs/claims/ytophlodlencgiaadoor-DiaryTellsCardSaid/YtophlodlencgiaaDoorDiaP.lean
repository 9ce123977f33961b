/-
  Walks: an entry's text, by the document.
-/
import Derived.Test.YtophlodlencgiaaDoorDiaO
namespace Go.Proofs.YtophlodlencgiaaDoor
open Go.V
set_option linter.unusedVariables false
set_option linter.unusedSimpArgs false
set_option maxRecDepth 100000
set_option maxHeartbeats 8000000

theorem okR_Text (a0 a1 a2 a3 a4 a5 : Int) (m : Nat) (g : Nat → Nat → DV) (a7 : Int) (h0 : In64 a0) (h1 : In64 a1) (h3 : In64 a3) (h4 : In64 a4) (h5 : In64 a5) :
    CallOK (O := Ob) PR n_ref19_Text [.agg [.dv (.int .i64 a0), .dv (.int .i64 a1), .dv (.int .i64 a2), .dv (.int .i64 a3), .dv (.int .i64 a4), .dv (.int .i64 a5), .dv (.seq m 1 g), .dv (.int .i64 a7)]] []
      fun r k => r = .dv (.str (ofB (textM a0 a1 a2 a3 a4 a5))) ∧ k = [] := by
  obtain ⟨o, ho⟩ : ∃ o : List UInt8 → ByteArray, ∀ l, o l = ofB l := ⟨_, fun _ => rfl⟩
  have c0 := okR_Digits a0 h0.1 h0.2
  have c1 := okR_Digits a1 h1.1 h1.2
  have c3 := okR_Digits a3 h3.1 h3.2
  have c4 := okR_Digits a4 h4.1 h4.2
  have c5 := okR_Digits a5 h5.1 h5.2
  have l0 := Lib.itoa_length_le a0 h0.1 h0.2
  have l1 := Lib.itoa_length_le a1 h1.1 h1.2
  have l3 := Lib.itoa_length_le a3 h3.1 h3.2
  have l4 := Lib.itoa_length_le a4 h4.1 h4.2
  have l5 := Lib.itoa_length_le a5 h5.1 h5.2
  have hT : textM a0 a1 a2 a3 a4 a5 = if a4 = 0 then Lib.itoa a0 ++ letterM a2 ++ Lib.itoa a1 ++ [32] ++ Lib.itoa a3 ++ [45] ++ [46, 46] else Lib.itoa a0 ++ letterM a2 ++ Lib.itoa a1 ++ [32] ++ Lib.itoa a3 ++ [45] ++ Lib.itoa a4 ++ [32] ++ Lib.itoa a5 := rfl
  have hL1 : a2 = 1 → letterM a2 = [115] := fun h => by rw [h]; rfl
  have hL2 : a2 = 2 → letterM a2 = [114] := fun h => by rw [h]; rfl
  have hL3 : a2 = 3 → letterM a2 = [120] := fun h => by rw [h]; rfl
  have hL4 : ¬ a2 = 1 → ¬ a2 = 2 → ¬ a2 = 3 → letterM a2 = [63] := fun h1 h2 h3 => by unfold letterM; rw [if_neg h1, if_neg h2, if_neg h3]
  have hlt1 : (letterM a2).length = 1 := by unfold letterM; split <;> (try split) <;> (try split) <;> rfl
  rw [hT]
  generalize Lib.itoa a0 = A0 at *
  generalize Lib.itoa a1 = A1 at *
  generalize Lib.itoa a3 = A3 at *
  generalize Lib.itoa a4 = A4 at *
  generalize Lib.itoa a5 = A5 at *
  generalize letterM a2 = LT at *
  simp only [← ho] at c0 c1 c3 c4 c5 ⊢
  clear hT
  refine fn_walkv mixed fn_ref19_Text (Ent.refl _ _) fun bin cmp un conv bnot beq band sel isel ofN toN inb nz nneg lt le room' slb add sub sbin scmp slen sget ssub addk pc pb pi pf ps mkok min_ ig aeq P hP hA hF Q hQ => ?_
  have hcv : ∀ x y, ps .scat [.str (o x), .str (o y)] = o (x ++ y) := by
    intro x y
    have : ps = puS := congrArg Ar.ps hA
    rw [this, ho, ho, ho, ← ofB_app]; rfl
  have hcl : ∀ x y, ps .scat [.str (o x), .str ⟨⟨y⟩⟩] = o (x ++ y) := by
    intro x y
    have : ps = puS := congrArg Ar.ps hA
    rw [this, ho, ho, ← ofB_app]; rfl
  have hpcv : ∀ x y : List UInt8, x.length + y.length ≤ 1000 → pc .scat [.str (o x), .str (o y)] := by
    intro x y h
    have : pc = puC := congrArg Ar.pc hA
    rw [this, ho, ho]
    show ((x.length + y.length : Nat) : Int) ≤ 9223372036854775807
    omega
  have hpcl : ∀ x y : List UInt8, x.length + y.length ≤ 1000 → pc .scat [.str (o x), .str ⟨⟨y⟩⟩] := by
    intro x y h
    have : pc = puC := congrArg Ar.pc hA
    rw [this, ho]
    show ((x.length + y.length : Nat) : Int) ≤ 9223372036854775807
    omega
  rcases (by omega : a2 = 1 ∨ a2 = 2 ∨ a2 = 3 ∨ (¬ a2 = 1 ∧ ¬ a2 = 2 ∧ ¬ a2 = 3)) with hk | hk | hk | ⟨hk1, hk2, hk3⟩
  · skip
    obtain rfl : LT = [115] := hL1 hk
    clear hL1 hL2 hL3 hL4
    by_cases he : a4 = 0
    · rw [if_pos he] at hQ
      cbv
      repeat' first
        | ((refine Chk.mk (by first | (refine hpcv _ _ ?_; (try simp only [List.length_append, List.length_cons, List.length_nil]); omega) | (refine hpcl _ _ ?_; (try simp only [List.length_append, List.length_cons, List.length_nil]); omega)) ?_); cbv)
        | ((rw [hcv]); cbv)
        | ((rw [hcl]); cbv)
        | (refine call_pure hP code_ref19_Digits (c0) ?_ ?_; (focus (cbv; (try simp); done)); rintro _ rfl; cbv)
        | (refine call_pure hP code_ref19_Digits (c1) ?_ ?_; (focus (cbv; (try simp); done)); rintro _ rfl; cbv)
        | (refine call_pure hP code_ref19_Digits (c3) ?_ ?_; (focus (cbv; (try simp); done)); rintro _ rfl; cbv)
        | (refine call_pure hP code_ref19_Digits (c4) ?_ ?_; (focus (cbv; (try simp); done)); rintro _ rfl; cbv)
        | (refine call_pure hP code_ref19_Digits (c5) ?_ ?_; (focus (cbv; (try simp); done)); rintro _ rfl; cbv)
        | (refine Chk.mk trivial ?_; cbv)
        | (refine bc_true (by first | assumption | (simp (disch := omega) only [hF, natc, Int.ofNat_eq_natCast, w64_in, decide_eq_true_eq, decide_eq_false_iff_not, Int.toNat_natCast, Bool.not_eq_true', Bool.not_eq_false', not_true_eq_false, not_false_eq_true, Int.not_lt, Int.not_le, Bool.and_eq_true, Bool.or_eq_true, Int.ofNat_lt, Int.ofNat_le, Int.natCast_nonneg, Int.toNat_zero, Int.toNat_one, Classical.not_not, beq_self_eq_true, true_and, and_true]; first | done | assumption | omega | (simp only [natc] at *; omega))) ?_; cbv)
        | (refine bc_false (by first | assumption | (simp (disch := omega) only [hF, natc, Int.ofNat_eq_natCast, w64_in, decide_eq_true_eq, decide_eq_false_iff_not, Int.toNat_natCast, Bool.not_eq_true', Bool.not_eq_false', not_true_eq_false, not_false_eq_true, Int.not_lt, Int.not_le, Bool.and_eq_true, Bool.or_eq_true, Int.ofNat_lt, Int.ofNat_le, Int.natCast_nonneg, Int.toNat_zero, Int.toNat_one, Classical.not_not, beq_self_eq_true, true_and, and_true]; first | done | assumption | omega | (simp only [natc] at *; omega))) ?_; cbv)
        | (refine bc_split (fun h => ?_) (fun h => ?_) <;> (try simp (disch := omega) only [hF, natc, Int.ofNat_eq_natCast, w64_in, decide_eq_true_eq, decide_eq_false_iff_not, Int.toNat_natCast, Bool.not_eq_true', Bool.not_eq_false', not_true_eq_false, not_false_eq_true, Int.not_lt, Int.not_le, Bool.and_eq_true, Bool.or_eq_true, Int.ofNat_lt, Int.ofNat_le, Int.natCast_nonneg, Int.toNat_zero, Int.toNat_one, Classical.not_not, beq_self_eq_true, true_and, and_true] at h) <;> cbv)
        | (refine IdxVC.mk (by simp (disch := omega) only [hF, natc, Int.ofNat_eq_natCast, w64_in, decide_eq_true_eq, decide_eq_false_iff_not, Int.toNat_natCast, Bool.not_eq_true', Bool.not_eq_false', not_true_eq_false, not_false_eq_true, Int.not_lt, Int.not_le, Bool.and_eq_true, Bool.or_eq_true, Int.ofNat_lt, Int.ofNat_le, Int.natCast_nonneg, Int.toNat_zero, Int.toNat_one, Classical.not_not, beq_self_eq_true, true_and, and_true]; first | done | omega | (simp only [natc] at *; omega)) (fun kx hk hk2 => ?_); simp (disch := omega) only [hF, natc, Int.ofNat_eq_natCast, w64_in, decide_eq_true_eq, decide_eq_false_iff_not, Int.toNat_natCast, Bool.not_eq_true', Bool.not_eq_false', not_true_eq_false, not_false_eq_true, Int.not_lt, Int.not_le, Bool.and_eq_true, Bool.or_eq_true, Int.ofNat_lt, Int.ofNat_le, Int.natCast_nonneg, Int.toNat_zero, Int.toNat_one, Classical.not_not, beq_self_eq_true, true_and, and_true] at hk; (try obtain rfl : kx = 0 := hk); cbv)
        | (refine Chk.mk (by simp (disch := omega) only [maxN, hF, natc, Int.ofNat_eq_natCast, w64_in, decide_eq_true_eq, decide_eq_false_iff_not, Int.toNat_natCast, Bool.not_eq_true', Bool.not_eq_false', not_true_eq_false, not_false_eq_true, Int.not_lt, Int.not_le, Bool.and_eq_true, Bool.or_eq_true, Int.ofNat_lt, Int.ofNat_le, Int.natCast_nonneg, Int.toNat_zero, Int.toNat_one, Classical.not_not, beq_self_eq_true, true_and, and_true]; first | done | assumption | omega | (simp only [natc] at *; omega)) ?_; cbv)
        | (intro (hmx : _ ≤ maxN); replace hmx : _ ≤ 17592186044416 := hmx; cbv)
        | (intro _; cbv)
      all_goals first | (exfalso; clear hF hA hP hQ; omega; done) | (subst hQ; exact leaf_data rfl rfl ⟨rfl, rfl⟩) | trace_state
    · rw [if_neg he] at hQ
      cbv
      repeat' first
        | ((refine Chk.mk (by first | (refine hpcv _ _ ?_; (try simp only [List.length_append, List.length_cons, List.length_nil]); omega) | (refine hpcl _ _ ?_; (try simp only [List.length_append, List.length_cons, List.length_nil]); omega)) ?_); cbv)
        | ((rw [hcv]); cbv)
        | ((rw [hcl]); cbv)
        | (refine call_pure hP code_ref19_Digits (c0) ?_ ?_; (focus (cbv; (try simp); done)); rintro _ rfl; cbv)
        | (refine call_pure hP code_ref19_Digits (c1) ?_ ?_; (focus (cbv; (try simp); done)); rintro _ rfl; cbv)
        | (refine call_pure hP code_ref19_Digits (c3) ?_ ?_; (focus (cbv; (try simp); done)); rintro _ rfl; cbv)
        | (refine call_pure hP code_ref19_Digits (c4) ?_ ?_; (focus (cbv; (try simp); done)); rintro _ rfl; cbv)
        | (refine call_pure hP code_ref19_Digits (c5) ?_ ?_; (focus (cbv; (try simp); done)); rintro _ rfl; cbv)
        | (refine Chk.mk trivial ?_; cbv)
        | (refine bc_true (by first | assumption | (simp (disch := omega) only [hF, natc, Int.ofNat_eq_natCast, w64_in, decide_eq_true_eq, decide_eq_false_iff_not, Int.toNat_natCast, Bool.not_eq_true', Bool.not_eq_false', not_true_eq_false, not_false_eq_true, Int.not_lt, Int.not_le, Bool.and_eq_true, Bool.or_eq_true, Int.ofNat_lt, Int.ofNat_le, Int.natCast_nonneg, Int.toNat_zero, Int.toNat_one, Classical.not_not, beq_self_eq_true, true_and, and_true]; first | done | assumption | omega | (simp only [natc] at *; omega))) ?_; cbv)
        | (refine bc_false (by first | assumption | (simp (disch := omega) only [hF, natc, Int.ofNat_eq_natCast, w64_in, decide_eq_true_eq, decide_eq_false_iff_not, Int.toNat_natCast, Bool.not_eq_true', Bool.not_eq_false', not_true_eq_false, not_false_eq_true, Int.not_lt, Int.not_le, Bool.and_eq_true, Bool.or_eq_true, Int.ofNat_lt, Int.ofNat_le, Int.natCast_nonneg, Int.toNat_zero, Int.toNat_one, Classical.not_not, beq_self_eq_true, true_and, and_true]; first | done | assumption | omega | (simp only [natc] at *; omega))) ?_; cbv)
        | (refine bc_split (fun h => ?_) (fun h => ?_) <;> (try simp (disch := omega) only [hF, natc, Int.ofNat_eq_natCast, w64_in, decide_eq_true_eq, decide_eq_false_iff_not, Int.toNat_natCast, Bool.not_eq_true', Bool.not_eq_false', not_true_eq_false, not_false_eq_true, Int.not_lt, Int.not_le, Bool.and_eq_true, Bool.or_eq_true, Int.ofNat_lt, Int.ofNat_le, Int.natCast_nonneg, Int.toNat_zero, Int.toNat_one, Classical.not_not, beq_self_eq_true, true_and, and_true] at h) <;> cbv)
        | (refine IdxVC.mk (by simp (disch := omega) only [hF, natc, Int.ofNat_eq_natCast, w64_in, decide_eq_true_eq, decide_eq_false_iff_not, Int.toNat_natCast, Bool.not_eq_true', Bool.not_eq_false', not_true_eq_false, not_false_eq_true, Int.not_lt, Int.not_le, Bool.and_eq_true, Bool.or_eq_true, Int.ofNat_lt, Int.ofNat_le, Int.natCast_nonneg, Int.toNat_zero, Int.toNat_one, Classical.not_not, beq_self_eq_true, true_and, and_true]; first | done | omega | (simp only [natc] at *; omega)) (fun kx hk hk2 => ?_); simp (disch := omega) only [hF, natc, Int.ofNat_eq_natCast, w64_in, decide_eq_true_eq, decide_eq_false_iff_not, Int.toNat_natCast, Bool.not_eq_true', Bool.not_eq_false', not_true_eq_false, not_false_eq_true, Int.not_lt, Int.not_le, Bool.and_eq_true, Bool.or_eq_true, Int.ofNat_lt, Int.ofNat_le, Int.natCast_nonneg, Int.toNat_zero, Int.toNat_one, Classical.not_not, beq_self_eq_true, true_and, and_true] at hk; (try obtain rfl : kx = 0 := hk); cbv)
        | (refine Chk.mk (by simp (disch := omega) only [maxN, hF, natc, Int.ofNat_eq_natCast, w64_in, decide_eq_true_eq, decide_eq_false_iff_not, Int.toNat_natCast, Bool.not_eq_true', Bool.not_eq_false', not_true_eq_false, not_false_eq_true, Int.not_lt, Int.not_le, Bool.and_eq_true, Bool.or_eq_true, Int.ofNat_lt, Int.ofNat_le, Int.natCast_nonneg, Int.toNat_zero, Int.toNat_one, Classical.not_not, beq_self_eq_true, true_and, and_true]; first | done | assumption | omega | (simp only [natc] at *; omega)) ?_; cbv)
        | (intro (hmx : _ ≤ maxN); replace hmx : _ ≤ 17592186044416 := hmx; cbv)
        | (intro _; cbv)
      all_goals first | (exfalso; clear hF hA hP hQ; omega; done) | (subst hQ; exact leaf_data rfl rfl ⟨rfl, rfl⟩) | trace_state
  · skip
    obtain rfl : LT = [114] := hL2 hk
    clear hL1 hL2 hL3 hL4
    by_cases he : a4 = 0
    · rw [if_pos he] at hQ
      cbv
      repeat' first
        | ((refine Chk.mk (by first | (refine hpcv _ _ ?_; (try simp only [List.length_append, List.length_cons, List.length_nil]); omega) | (refine hpcl _ _ ?_; (try simp only [List.length_append, List.length_cons, List.length_nil]); omega)) ?_); cbv)
        | ((rw [hcv]); cbv)
        | ((rw [hcl]); cbv)
        | (refine call_pure hP code_ref19_Digits (c0) ?_ ?_; (focus (cbv; (try simp); done)); rintro _ rfl; cbv)
        | (refine call_pure hP code_ref19_Digits (c1) ?_ ?_; (focus (cbv; (try simp); done)); rintro _ rfl; cbv)
        | (refine call_pure hP code_ref19_Digits (c3) ?_ ?_; (focus (cbv; (try simp); done)); rintro _ rfl; cbv)
        | (refine call_pure hP code_ref19_Digits (c4) ?_ ?_; (focus (cbv; (try simp); done)); rintro _ rfl; cbv)
        | (refine call_pure hP code_ref19_Digits (c5) ?_ ?_; (focus (cbv; (try simp); done)); rintro _ rfl; cbv)
        | (refine Chk.mk trivial ?_; cbv)
        | (refine bc_true (by first | assumption | (simp (disch := omega) only [hF, natc, Int.ofNat_eq_natCast, w64_in, decide_eq_true_eq, decide_eq_false_iff_not, Int.toNat_natCast, Bool.not_eq_true', Bool.not_eq_false', not_true_eq_false, not_false_eq_true, Int.not_lt, Int.not_le, Bool.and_eq_true, Bool.or_eq_true, Int.ofNat_lt, Int.ofNat_le, Int.natCast_nonneg, Int.toNat_zero, Int.toNat_one, Classical.not_not, beq_self_eq_true, true_and, and_true]; first | done | assumption | omega | (simp only [natc] at *; omega))) ?_; cbv)
        | (refine bc_false (by first | assumption | (simp (disch := omega) only [hF, natc, Int.ofNat_eq_natCast, w64_in, decide_eq_true_eq, decide_eq_false_iff_not, Int.toNat_natCast, Bool.not_eq_true', Bool.not_eq_false', not_true_eq_false, not_false_eq_true, Int.not_lt, Int.not_le, Bool.and_eq_true, Bool.or_eq_true, Int.ofNat_lt, Int.ofNat_le, Int.natCast_nonneg, Int.toNat_zero, Int.toNat_one, Classical.not_not, beq_self_eq_true, true_and, and_true]; first | done | assumption | omega | (simp only [natc] at *; omega))) ?_; cbv)
        | (refine bc_split (fun h => ?_) (fun h => ?_) <;> (try simp (disch := omega) only [hF, natc, Int.ofNat_eq_natCast, w64_in, decide_eq_true_eq, decide_eq_false_iff_not, Int.toNat_natCast, Bool.not_eq_true', Bool.not_eq_false', not_true_eq_false, not_false_eq_true, Int.not_lt, Int.not_le, Bool.and_eq_true, Bool.or_eq_true, Int.ofNat_lt, Int.ofNat_le, Int.natCast_nonneg, Int.toNat_zero, Int.toNat_one, Classical.not_not, beq_self_eq_true, true_and, and_true] at h) <;> cbv)
        | (refine IdxVC.mk (by simp (disch := omega) only [hF, natc, Int.ofNat_eq_natCast, w64_in, decide_eq_true_eq, decide_eq_false_iff_not, Int.toNat_natCast, Bool.not_eq_true', Bool.not_eq_false', not_true_eq_false, not_false_eq_true, Int.not_lt, Int.not_le, Bool.and_eq_true, Bool.or_eq_true, Int.ofNat_lt, Int.ofNat_le, Int.natCast_nonneg, Int.toNat_zero, Int.toNat_one, Classical.not_not, beq_self_eq_true, true_and, and_true]; first | done | omega | (simp only [natc] at *; omega)) (fun kx hk hk2 => ?_); simp (disch := omega) only [hF, natc, Int.ofNat_eq_natCast, w64_in, decide_eq_true_eq, decide_eq_false_iff_not, Int.toNat_natCast, Bool.not_eq_true', Bool.not_eq_false', not_true_eq_false, not_false_eq_true, Int.not_lt, Int.not_le, Bool.and_eq_true, Bool.or_eq_true, Int.ofNat_lt, Int.ofNat_le, Int.natCast_nonneg, Int.toNat_zero, Int.toNat_one, Classical.not_not, beq_self_eq_true, true_and, and_true] at hk; (try obtain rfl : kx = 0 := hk); cbv)
        | (refine Chk.mk (by simp (disch := omega) only [maxN, hF, natc, Int.ofNat_eq_natCast, w64_in, decide_eq_true_eq, decide_eq_false_iff_not, Int.toNat_natCast, Bool.not_eq_true', Bool.not_eq_false', not_true_eq_false, not_false_eq_true, Int.not_lt, Int.not_le, Bool.and_eq_true, Bool.or_eq_true, Int.ofNat_lt, Int.ofNat_le, Int.natCast_nonneg, Int.toNat_zero, Int.toNat_one, Classical.not_not, beq_self_eq_true, true_and, and_true]; first | done | assumption | omega | (simp only [natc] at *; omega)) ?_; cbv)
        | (intro (hmx : _ ≤ maxN); replace hmx : _ ≤ 17592186044416 := hmx; cbv)
        | (intro _; cbv)
      all_goals first | (exfalso; clear hF hA hP hQ; omega; done) | (subst hQ; exact leaf_data rfl rfl ⟨rfl, rfl⟩) | trace_state
    · rw [if_neg he] at hQ
      cbv
      repeat' first
        | ((refine Chk.mk (by first | (refine hpcv _ _ ?_; (try simp only [List.length_append, List.length_cons, List.length_nil]); omega) | (refine hpcl _ _ ?_; (try simp only [List.length_append, List.length_cons, List.length_nil]); omega)) ?_); cbv)
        | ((rw [hcv]); cbv)
        | ((rw [hcl]); cbv)
        | (refine call_pure hP code_ref19_Digits (c0) ?_ ?_; (focus (cbv; (try simp); done)); rintro _ rfl; cbv)
        | (refine call_pure hP code_ref19_Digits (c1) ?_ ?_; (focus (cbv; (try simp); done)); rintro _ rfl; cbv)
        | (refine call_pure hP code_ref19_Digits (c3) ?_ ?_; (focus (cbv; (try simp); done)); rintro _ rfl; cbv)
        | (refine call_pure hP code_ref19_Digits (c4) ?_ ?_; (focus (cbv; (try simp); done)); rintro _ rfl; cbv)
        | (refine call_pure hP code_ref19_Digits (c5) ?_ ?_; (focus (cbv; (try simp); done)); rintro _ rfl; cbv)
        | (refine Chk.mk trivial ?_; cbv)
        | (refine bc_true (by first | assumption | (simp (disch := omega) only [hF, natc, Int.ofNat_eq_natCast, w64_in, decide_eq_true_eq, decide_eq_false_iff_not, Int.toNat_natCast, Bool.not_eq_true', Bool.not_eq_false', not_true_eq_false, not_false_eq_true, Int.not_lt, Int.not_le, Bool.and_eq_true, Bool.or_eq_true, Int.ofNat_lt, Int.ofNat_le, Int.natCast_nonneg, Int.toNat_zero, Int.toNat_one, Classical.not_not, beq_self_eq_true, true_and, and_true]; first | done | assumption | omega | (simp only [natc] at *; omega))) ?_; cbv)
        | (refine bc_false (by first | assumption | (simp (disch := omega) only [hF, natc, Int.ofNat_eq_natCast, w64_in, decide_eq_true_eq, decide_eq_false_iff_not, Int.toNat_natCast, Bool.not_eq_true', Bool.not_eq_false', not_true_eq_false, not_false_eq_true, Int.not_lt, Int.not_le, Bool.and_eq_true, Bool.or_eq_true, Int.ofNat_lt, Int.ofNat_le, Int.natCast_nonneg, Int.toNat_zero, Int.toNat_one, Classical.not_not, beq_self_eq_true, true_and, and_true]; first | done | assumption | omega | (simp only [natc] at *; omega))) ?_; cbv)
        | (refine bc_split (fun h => ?_) (fun h => ?_) <;> (try simp (disch := omega) only [hF, natc, Int.ofNat_eq_natCast, w64_in, decide_eq_true_eq, decide_eq_false_iff_not, Int.toNat_natCast, Bool.not_eq_true', Bool.not_eq_false', not_true_eq_false, not_false_eq_true, Int.not_lt, Int.not_le, Bool.and_eq_true, Bool.or_eq_true, Int.ofNat_lt, Int.ofNat_le, Int.natCast_nonneg, Int.toNat_zero, Int.toNat_one, Classical.not_not, beq_self_eq_true, true_and, and_true] at h) <;> cbv)
        | (refine IdxVC.mk (by simp (disch := omega) only [hF, natc, Int.ofNat_eq_natCast, w64_in, decide_eq_true_eq, decide_eq_false_iff_not, Int.toNat_natCast, Bool.not_eq_true', Bool.not_eq_false', not_true_eq_false, not_false_eq_true, Int.not_lt, Int.not_le, Bool.and_eq_true, Bool.or_eq_true, Int.ofNat_lt, Int.ofNat_le, Int.natCast_nonneg, Int.toNat_zero, Int.toNat_one, Classical.not_not, beq_self_eq_true, true_and, and_true]; first | done | omega | (simp only [natc] at *; omega)) (fun kx hk hk2 => ?_); simp (disch := omega) only [hF, natc, Int.ofNat_eq_natCast, w64_in, decide_eq_true_eq, decide_eq_false_iff_not, Int.toNat_natCast, Bool.not_eq_true', Bool.not_eq_false', not_true_eq_false, not_false_eq_true, Int.not_lt, Int.not_le, Bool.and_eq_true, Bool.or_eq_true, Int.ofNat_lt, Int.ofNat_le, Int.natCast_nonneg, Int.toNat_zero, Int.toNat_one, Classical.not_not, beq_self_eq_true, true_and, and_true] at hk; (try obtain rfl : kx = 0 := hk); cbv)
        | (refine Chk.mk (by simp (disch := omega) only [maxN, hF, natc, Int.ofNat_eq_natCast, w64_in, decide_eq_true_eq, decide_eq_false_iff_not, Int.toNat_natCast, Bool.not_eq_true', Bool.not_eq_false', not_true_eq_false, not_false_eq_true, Int.not_lt, Int.not_le, Bool.and_eq_true, Bool.or_eq_true, Int.ofNat_lt, Int.ofNat_le, Int.natCast_nonneg, Int.toNat_zero, Int.toNat_one, Classical.not_not, beq_self_eq_true, true_and, and_true]; first | done | assumption | omega | (simp only [natc] at *; omega)) ?_; cbv)
        | (intro (hmx : _ ≤ maxN); replace hmx : _ ≤ 17592186044416 := hmx; cbv)
        | (intro _; cbv)
      all_goals first | (exfalso; clear hF hA hP hQ; omega; done) | (subst hQ; exact leaf_data rfl rfl ⟨rfl, rfl⟩) | trace_state
  · skip
    obtain rfl : LT = [120] := hL3 hk
    clear hL1 hL2 hL3 hL4
    by_cases he : a4 = 0
    · rw [if_pos he] at hQ
      cbv
      repeat' first
        | ((refine Chk.mk (by first | (refine hpcv _ _ ?_; (try simp only [List.length_append, List.length_cons, List.length_nil]); omega) | (refine hpcl _ _ ?_; (try simp only [List.length_append, List.length_cons, List.length_nil]); omega)) ?_); cbv)
        | ((rw [hcv]); cbv)
        | ((rw [hcl]); cbv)
        | (refine call_pure hP code_ref19_Digits (c0) ?_ ?_; (focus (cbv; (try simp); done)); rintro _ rfl; cbv)
        | (refine call_pure hP code_ref19_Digits (c1) ?_ ?_; (focus (cbv; (try simp); done)); rintro _ rfl; cbv)
        | (refine call_pure hP code_ref19_Digits (c3) ?_ ?_; (focus (cbv; (try simp); done)); rintro _ rfl; cbv)
        | (refine call_pure hP code_ref19_Digits (c4) ?_ ?_; (focus (cbv; (try simp); done)); rintro _ rfl; cbv)
        | (refine call_pure hP code_ref19_Digits (c5) ?_ ?_; (focus (cbv; (try simp); done)); rintro _ rfl; cbv)
        | (refine Chk.mk trivial ?_; cbv)
        | (refine bc_true (by first | assumption | (simp (disch := omega) only [hF, natc, Int.ofNat_eq_natCast, w64_in, decide_eq_true_eq, decide_eq_false_iff_not, Int.toNat_natCast, Bool.not_eq_true', Bool.not_eq_false', not_true_eq_false, not_false_eq_true, Int.not_lt, Int.not_le, Bool.and_eq_true, Bool.or_eq_true, Int.ofNat_lt, Int.ofNat_le, Int.natCast_nonneg, Int.toNat_zero, Int.toNat_one, Classical.not_not, beq_self_eq_true, true_and, and_true]; first | done | assumption | omega | (simp only [natc] at *; omega))) ?_; cbv)
        | (refine bc_false (by first | assumption | (simp (disch := omega) only [hF, natc, Int.ofNat_eq_natCast, w64_in, decide_eq_true_eq, decide_eq_false_iff_not, Int.toNat_natCast, Bool.not_eq_true', Bool.not_eq_false', not_true_eq_false, not_false_eq_true, Int.not_lt, Int.not_le, Bool.and_eq_true, Bool.or_eq_true, Int.ofNat_lt, Int.ofNat_le, Int.natCast_nonneg, Int.toNat_zero, Int.toNat_one, Classical.not_not, beq_self_eq_true, true_and, and_true]; first | done | assumption | omega | (simp only [natc] at *; omega))) ?_; cbv)
        | (refine bc_split (fun h => ?_) (fun h => ?_) <;> (try simp (disch := omega) only [hF, natc, Int.ofNat_eq_natCast, w64_in, decide_eq_true_eq, decide_eq_false_iff_not, Int.toNat_natCast, Bool.not_eq_true', Bool.not_eq_false', not_true_eq_false, not_false_eq_true, Int.not_lt, Int.not_le, Bool.and_eq_true, Bool.or_eq_true, Int.ofNat_lt, Int.ofNat_le, Int.natCast_nonneg, Int.toNat_zero, Int.toNat_one, Classical.not_not, beq_self_eq_true, true_and, and_true] at h) <;> cbv)
        | (refine IdxVC.mk (by simp (disch := omega) only [hF, natc, Int.ofNat_eq_natCast, w64_in, decide_eq_true_eq, decide_eq_false_iff_not, Int.toNat_natCast, Bool.not_eq_true', Bool.not_eq_false', not_true_eq_false, not_false_eq_true, Int.not_lt, Int.not_le, Bool.and_eq_true, Bool.or_eq_true, Int.ofNat_lt, Int.ofNat_le, Int.natCast_nonneg, Int.toNat_zero, Int.toNat_one, Classical.not_not, beq_self_eq_true, true_and, and_true]; first | done | omega | (simp only [natc] at *; omega)) (fun kx hk hk2 => ?_); simp (disch := omega) only [hF, natc, Int.ofNat_eq_natCast, w64_in, decide_eq_true_eq, decide_eq_false_iff_not, Int.toNat_natCast, Bool.not_eq_true', Bool.not_eq_false', not_true_eq_false, not_false_eq_true, Int.not_lt, Int.not_le, Bool.and_eq_true, Bool.or_eq_true, Int.ofNat_lt, Int.ofNat_le, Int.natCast_nonneg, Int.toNat_zero, Int.toNat_one, Classical.not_not, beq_self_eq_true, true_and, and_true] at hk; (try obtain rfl : kx = 0 := hk); cbv)
        | (refine Chk.mk (by simp (disch := omega) only [maxN, hF, natc, Int.ofNat_eq_natCast, w64_in, decide_eq_true_eq, decide_eq_false_iff_not, Int.toNat_natCast, Bool.not_eq_true', Bool.not_eq_false', not_true_eq_false, not_false_eq_true, Int.not_lt, Int.not_le, Bool.and_eq_true, Bool.or_eq_true, Int.ofNat_lt, Int.ofNat_le, Int.natCast_nonneg, Int.toNat_zero, Int.toNat_one, Classical.not_not, beq_self_eq_true, true_and, and_true]; first | done | assumption | omega | (simp only [natc] at *; omega)) ?_; cbv)
        | (intro (hmx : _ ≤ maxN); replace hmx : _ ≤ 17592186044416 := hmx; cbv)
        | (intro _; cbv)
      all_goals first | (exfalso; clear hF hA hP hQ; omega; done) | (subst hQ; exact leaf_data rfl rfl ⟨rfl, rfl⟩) | trace_state
    · rw [if_neg he] at hQ
      cbv
      repeat' first
        | ((refine Chk.mk (by first | (refine hpcv _ _ ?_; (try simp only [List.length_append, List.length_cons, List.length_nil]); omega) | (refine hpcl _ _ ?_; (try simp only [List.length_append, List.length_cons, List.length_nil]); omega)) ?_); cbv)
        | ((rw [hcv]); cbv)
        | ((rw [hcl]); cbv)
        | (refine call_pure hP code_ref19_Digits (c0) ?_ ?_; (focus (cbv; (try simp); done)); rintro _ rfl; cbv)
        | (refine call_pure hP code_ref19_Digits (c1) ?_ ?_; (focus (cbv; (try simp); done)); rintro _ rfl; cbv)
        | (refine call_pure hP code_ref19_Digits (c3) ?_ ?_; (focus (cbv; (try simp); done)); rintro _ rfl; cbv)
        | (refine call_pure hP code_ref19_Digits (c4) ?_ ?_; (focus (cbv; (try simp); done)); rintro _ rfl; cbv)
        | (refine call_pure hP code_ref19_Digits (c5) ?_ ?_; (focus (cbv; (try simp); done)); rintro _ rfl; cbv)
        | (refine Chk.mk trivial ?_; cbv)
        | (refine bc_true (by first | assumption | (simp (disch := omega) only [hF, natc, Int.ofNat_eq_natCast, w64_in, decide_eq_true_eq, decide_eq_false_iff_not, Int.toNat_natCast, Bool.not_eq_true', Bool.not_eq_false', not_true_eq_false, not_false_eq_true, Int.not_lt, Int.not_le, Bool.and_eq_true, Bool.or_eq_true, Int.ofNat_lt, Int.ofNat_le, Int.natCast_nonneg, Int.toNat_zero, Int.toNat_one, Classical.not_not, beq_self_eq_true, true_and, and_true]; first | done | assumption | omega | (simp only [natc] at *; omega))) ?_; cbv)
        | (refine bc_false (by first | assumption | (simp (disch := omega) only [hF, natc, Int.ofNat_eq_natCast, w64_in, decide_eq_true_eq, decide_eq_false_iff_not, Int.toNat_natCast, Bool.not_eq_true', Bool.not_eq_false', not_true_eq_false, not_false_eq_true, Int.not_lt, Int.not_le, Bool.and_eq_true, Bool.or_eq_true, Int.ofNat_lt, Int.ofNat_le, Int.natCast_nonneg, Int.toNat_zero, Int.toNat_one, Classical.not_not, beq_self_eq_true, true_and, and_true]; first | done | assumption | omega | (simp only [natc] at *; omega))) ?_; cbv)
        | (refine bc_split (fun h => ?_) (fun h => ?_) <;> (try simp (disch := omega) only [hF, natc, Int.ofNat_eq_natCast, w64_in, decide_eq_true_eq, decide_eq_false_iff_not, Int.toNat_natCast, Bool.not_eq_true', Bool.not_eq_false', not_true_eq_false, not_false_eq_true, Int.not_lt, Int.not_le, Bool.and_eq_true, Bool.or_eq_true, Int.ofNat_lt, Int.ofNat_le, Int.natCast_nonneg, Int.toNat_zero, Int.toNat_one, Classical.not_not, beq_self_eq_true, true_and, and_true] at h) <;> cbv)
        | (refine IdxVC.mk (by simp (disch := omega) only [hF, natc, Int.ofNat_eq_natCast, w64_in, decide_eq_true_eq, decide_eq_false_iff_not, Int.toNat_natCast, Bool.not_eq_true', Bool.not_eq_false', not_true_eq_false, not_false_eq_true, Int.not_lt, Int.not_le, Bool.and_eq_true, Bool.or_eq_true, Int.ofNat_lt, Int.ofNat_le, Int.natCast_nonneg, Int.toNat_zero, Int.toNat_one, Classical.not_not, beq_self_eq_true, true_and, and_true]; first | done | omega | (simp only [natc] at *; omega)) (fun kx hk hk2 => ?_); simp (disch := omega) only [hF, natc, Int.ofNat_eq_natCast, w64_in, decide_eq_true_eq, decide_eq_false_iff_not, Int.toNat_natCast, Bool.not_eq_true', Bool.not_eq_false', not_true_eq_false, not_false_eq_true, Int.not_lt, Int.not_le, Bool.and_eq_true, Bool.or_eq_true, Int.ofNat_lt, Int.ofNat_le, Int.natCast_nonneg, Int.toNat_zero, Int.toNat_one, Classical.not_not, beq_self_eq_true, true_and, and_true] at hk; (try obtain rfl : kx = 0 := hk); cbv)
        | (refine Chk.mk (by simp (disch := omega) only [maxN, hF, natc, Int.ofNat_eq_natCast, w64_in, decide_eq_true_eq, decide_eq_false_iff_not, Int.toNat_natCast, Bool.not_eq_true', Bool.not_eq_false', not_true_eq_false, not_false_eq_true, Int.not_lt, Int.not_le, Bool.and_eq_true, Bool.or_eq_true, Int.ofNat_lt, Int.ofNat_le, Int.natCast_nonneg, Int.toNat_zero, Int.toNat_one, Classical.not_not, beq_self_eq_true, true_and, and_true]; first | done | assumption | omega | (simp only [natc] at *; omega)) ?_; cbv)
        | (intro (hmx : _ ≤ maxN); replace hmx : _ ≤ 17592186044416 := hmx; cbv)
        | (intro _; cbv)
      all_goals first | (exfalso; clear hF hA hP hQ; omega; done) | (subst hQ; exact leaf_data rfl rfl ⟨rfl, rfl⟩) | trace_state
  · skip
    obtain rfl : LT = [63] := hL4 hk1 hk2 hk3
    clear hL1 hL2 hL3 hL4
    by_cases he : a4 = 0
    · rw [if_pos he] at hQ
      cbv
      repeat' first
        | ((refine Chk.mk (by first | (refine hpcv _ _ ?_; (try simp only [List.length_append, List.length_cons, List.length_nil]); omega) | (refine hpcl _ _ ?_; (try simp only [List.length_append, List.length_cons, List.length_nil]); omega)) ?_); cbv)
        | ((rw [hcv]); cbv)
        | ((rw [hcl]); cbv)
        | (refine call_pure hP code_ref19_Digits (c0) ?_ ?_; (focus (cbv; (try simp); done)); rintro _ rfl; cbv)
        | (refine call_pure hP code_ref19_Digits (c1) ?_ ?_; (focus (cbv; (try simp); done)); rintro _ rfl; cbv)
        | (refine call_pure hP code_ref19_Digits (c3) ?_ ?_; (focus (cbv; (try simp); done)); rintro _ rfl; cbv)
        | (refine call_pure hP code_ref19_Digits (c4) ?_ ?_; (focus (cbv; (try simp); done)); rintro _ rfl; cbv)
        | (refine call_pure hP code_ref19_Digits (c5) ?_ ?_; (focus (cbv; (try simp); done)); rintro _ rfl; cbv)
        | (refine Chk.mk trivial ?_; cbv)
        | (refine bc_true (by first | assumption | (simp (disch := omega) only [hF, natc, Int.ofNat_eq_natCast, w64_in, decide_eq_true_eq, decide_eq_false_iff_not, Int.toNat_natCast, Bool.not_eq_true', Bool.not_eq_false', not_true_eq_false, not_false_eq_true, Int.not_lt, Int.not_le, Bool.and_eq_true, Bool.or_eq_true, Int.ofNat_lt, Int.ofNat_le, Int.natCast_nonneg, Int.toNat_zero, Int.toNat_one, Classical.not_not, beq_self_eq_true, true_and, and_true]; first | done | assumption | omega | (simp only [natc] at *; omega))) ?_; cbv)
        | (refine bc_false (by first | assumption | (simp (disch := omega) only [hF, natc, Int.ofNat_eq_natCast, w64_in, decide_eq_true_eq, decide_eq_false_iff_not, Int.toNat_natCast, Bool.not_eq_true', Bool.not_eq_false', not_true_eq_false, not_false_eq_true, Int.not_lt, Int.not_le, Bool.and_eq_true, Bool.or_eq_true, Int.ofNat_lt, Int.ofNat_le, Int.natCast_nonneg, Int.toNat_zero, Int.toNat_one, Classical.not_not, beq_self_eq_true, true_and, and_true]; first | done | assumption | omega | (simp only [natc] at *; omega))) ?_; cbv)
        | (refine bc_split (fun h => ?_) (fun h => ?_) <;> (try simp (disch := omega) only [hF, natc, Int.ofNat_eq_natCast, w64_in, decide_eq_true_eq, decide_eq_false_iff_not, Int.toNat_natCast, Bool.not_eq_true', Bool.not_eq_false', not_true_eq_false, not_false_eq_true, Int.not_lt, Int.not_le, Bool.and_eq_true, Bool.or_eq_true, Int.ofNat_lt, Int.ofNat_le, Int.natCast_nonneg, Int.toNat_zero, Int.toNat_one, Classical.not_not, beq_self_eq_true, true_and, and_true] at h) <;> cbv)
        | (refine IdxVC.mk (by simp (disch := omega) only [hF, natc, Int.ofNat_eq_natCast, w64_in, decide_eq_true_eq, decide_eq_false_iff_not, Int.toNat_natCast, Bool.not_eq_true', Bool.not_eq_false', not_true_eq_false, not_false_eq_true, Int.not_lt, Int.not_le, Bool.and_eq_true, Bool.or_eq_true, Int.ofNat_lt, Int.ofNat_le, Int.natCast_nonneg, Int.toNat_zero, Int.toNat_one, Classical.not_not, beq_self_eq_true, true_and, and_true]; first | done | omega | (simp only [natc] at *; omega)) (fun kx hk hk2 => ?_); simp (disch := omega) only [hF, natc, Int.ofNat_eq_natCast, w64_in, decide_eq_true_eq, decide_eq_false_iff_not, Int.toNat_natCast, Bool.not_eq_true', Bool.not_eq_false', not_true_eq_false, not_false_eq_true, Int.not_lt, Int.not_le, Bool.and_eq_true, Bool.or_eq_true, Int.ofNat_lt, Int.ofNat_le, Int.natCast_nonneg, Int.toNat_zero, Int.toNat_one, Classical.not_not, beq_self_eq_true, true_and, and_true] at hk; (try obtain rfl : kx = 0 := hk); cbv)
        | (refine Chk.mk (by simp (disch := omega) only [maxN, hF, natc, Int.ofNat_eq_natCast, w64_in, decide_eq_true_eq, decide_eq_false_iff_not, Int.toNat_natCast, Bool.not_eq_true', Bool.not_eq_false', not_true_eq_false, not_false_eq_true, Int.not_lt, Int.not_le, Bool.and_eq_true, Bool.or_eq_true, Int.ofNat_lt, Int.ofNat_le, Int.natCast_nonneg, Int.toNat_zero, Int.toNat_one, Classical.not_not, beq_self_eq_true, true_and, and_true]; first | done | assumption | omega | (simp only [natc] at *; omega)) ?_; cbv)
        | (intro (hmx : _ ≤ maxN); replace hmx : _ ≤ 17592186044416 := hmx; cbv)
        | (intro _; cbv)
      all_goals first | (exfalso; clear hF hA hP hQ; omega; done) | (subst hQ; exact leaf_data rfl rfl ⟨rfl, rfl⟩) | trace_state
    · rw [if_neg he] at hQ
      cbv
      repeat' first
        | ((refine Chk.mk (by first | (refine hpcv _ _ ?_; (try simp only [List.length_append, List.length_cons, List.length_nil]); omega) | (refine hpcl _ _ ?_; (try simp only [List.length_append, List.length_cons, List.length_nil]); omega)) ?_); cbv)
        | ((rw [hcv]); cbv)
        | ((rw [hcl]); cbv)
        | (refine call_pure hP code_ref19_Digits (c0) ?_ ?_; (focus (cbv; (try simp); done)); rintro _ rfl; cbv)
        | (refine call_pure hP code_ref19_Digits (c1) ?_ ?_; (focus (cbv; (try simp); done)); rintro _ rfl; cbv)
        | (refine call_pure hP code_ref19_Digits (c3) ?_ ?_; (focus (cbv; (try simp); done)); rintro _ rfl; cbv)
        | (refine call_pure hP code_ref19_Digits (c4) ?_ ?_; (focus (cbv; (try simp); done)); rintro _ rfl; cbv)
        | (refine call_pure hP code_ref19_Digits (c5) ?_ ?_; (focus (cbv; (try simp); done)); rintro _ rfl; cbv)
        | (refine Chk.mk trivial ?_; cbv)
        | (refine bc_true (by first | assumption | (simp (disch := omega) only [hF, natc, Int.ofNat_eq_natCast, w64_in, decide_eq_true_eq, decide_eq_false_iff_not, Int.toNat_natCast, Bool.not_eq_true', Bool.not_eq_false', not_true_eq_false, not_false_eq_true, Int.not_lt, Int.not_le, Bool.and_eq_true, Bool.or_eq_true, Int.ofNat_lt, Int.ofNat_le, Int.natCast_nonneg, Int.toNat_zero, Int.toNat_one, Classical.not_not, beq_self_eq_true, true_and, and_true]; first | done | assumption | omega | (simp only [natc] at *; omega))) ?_; cbv)
        | (refine bc_false (by first | assumption | (simp (disch := omega) only [hF, natc, Int.ofNat_eq_natCast, w64_in, decide_eq_true_eq, decide_eq_false_iff_not, Int.toNat_natCast, Bool.not_eq_true', Bool.not_eq_false', not_true_eq_false, not_false_eq_true, Int.not_lt, Int.not_le, Bool.and_eq_true, Bool.or_eq_true, Int.ofNat_lt, Int.ofNat_le, Int.natCast_nonneg, Int.toNat_zero, Int.toNat_one, Classical.not_not, beq_self_eq_true, true_and, and_true]; first | done | assumption | omega | (simp only [natc] at *; omega))) ?_; cbv)
        | (refine bc_split (fun h => ?_) (fun h => ?_) <;> (try simp (disch := omega) only [hF, natc, Int.ofNat_eq_natCast, w64_in, decide_eq_true_eq, decide_eq_false_iff_not, Int.toNat_natCast, Bool.not_eq_true', Bool.not_eq_false', not_true_eq_false, not_false_eq_true, Int.not_lt, Int.not_le, Bool.and_eq_true, Bool.or_eq_true, Int.ofNat_lt, Int.ofNat_le, Int.natCast_nonneg, Int.toNat_zero, Int.toNat_one, Classical.not_not, beq_self_eq_true, true_and, and_true] at h) <;> cbv)
        | (refine IdxVC.mk (by simp (disch := omega) only [hF, natc, Int.ofNat_eq_natCast, w64_in, decide_eq_true_eq, decide_eq_false_iff_not, Int.toNat_natCast, Bool.not_eq_true', Bool.not_eq_false', not_true_eq_false, not_false_eq_true, Int.not_lt, Int.not_le, Bool.and_eq_true, Bool.or_eq_true, Int.ofNat_lt, Int.ofNat_le, Int.natCast_nonneg, Int.toNat_zero, Int.toNat_one, Classical.not_not, beq_self_eq_true, true_and, and_true]; first | done | omega | (simp only [natc] at *; omega)) (fun kx hk hk2 => ?_); simp (disch := omega) only [hF, natc, Int.ofNat_eq_natCast, w64_in, decide_eq_true_eq, decide_eq_false_iff_not, Int.toNat_natCast, Bool.not_eq_true', Bool.not_eq_false', not_true_eq_false, not_false_eq_true, Int.not_lt, Int.not_le, Bool.and_eq_true, Bool.or_eq_true, Int.ofNat_lt, Int.ofNat_le, Int.natCast_nonneg, Int.toNat_zero, Int.toNat_one, Classical.not_not, beq_self_eq_true, true_and, and_true] at hk; (try obtain rfl : kx = 0 := hk); cbv)
        | (refine Chk.mk (by simp (disch := omega) only [maxN, hF, natc, Int.ofNat_eq_natCast, w64_in, decide_eq_true_eq, decide_eq_false_iff_not, Int.toNat_natCast, Bool.not_eq_true', Bool.not_eq_false', not_true_eq_false, not_false_eq_true, Int.not_lt, Int.not_le, Bool.and_eq_true, Bool.or_eq_true, Int.ofNat_lt, Int.ofNat_le, Int.natCast_nonneg, Int.toNat_zero, Int.toNat_one, Classical.not_not, beq_self_eq_true, true_and, and_true]; first | done | assumption | omega | (simp only [natc] at *; omega)) ?_; cbv)
        | (intro (hmx : _ ≤ maxN); replace hmx : _ ≤ 17592186044416 := hmx; cbv)
        | (intro _; cbv)
      all_goals first | (exfalso; clear hF hA hP hQ; omega; done) | (subst hQ; exact leaf_data rfl rfl ⟨rfl, rfl⟩) | trace_state

end Go.Proofs.YtophlodlencgiaaDoor
