/-
  Walks: an entry's text.
-/
import Derived.Test.YtophlodlencgiaaDoorDiaN
namespace Go.Proofs.YtophlodlencgiaaDoor
open Go.V
set_option linter.unusedVariables false
set_option linter.unusedSimpArgs false
set_option maxRecDepth 100000
set_option maxHeartbeats 8000000

def letterM (kd : Int) : List UInt8 := if kd = 1 then [115] else if kd = 2 then [114] else if kd = 3 then [120] else [63]
def textM (a0 a1 kd be en er : Int) : List UInt8 :=
  if en = 0 then Lib.itoa a0 ++ letterM kd ++ Lib.itoa a1 ++ [32] ++ Lib.itoa be ++ [45] ++ [46, 46]
  else Lib.itoa a0 ++ letterM kd ++ Lib.itoa a1 ++ [32] ++ Lib.itoa be ++ [45] ++ Lib.itoa en ++ [32] ++ Lib.itoa er

/-- A whole number of 64 bits. -/
def In64 (n : Int) : Prop := -9223372036854775808 ≤ n ∧ n ≤ 9223372036854775807

theorem letter_sub (kd : Int) (h : 1 ≤ kd ∧ kd ≤ 3) : (⟨⟨[115, 114, 120]⟩⟩ : ByteArray).extract (kd - 1).toNat kd.toNat = ofB (letterM kd) := by
  rcases (by omega : kd = 1 ∨ kd = 2 ∨ kd = 3) with rfl | rfl | rfl <;> decide

theorem ok_Text (a0 a1 a2 a3 a4 a5 : Int) (m : Nat) (g : Nat → Nat → DV) (a7 : Int) (h0 : In64 a0) (h1 : In64 a1) (h3 : In64 a3) (h4 : In64 a4) (h5 : In64 a5) :
    CallOK (O := Ob) PR n_diary_Text [.agg [.dv (.int .i64 a0), .dv (.int .i64 a1), .dv (.int .i64 a2), .dv (.int .i64 a3), .dv (.int .i64 a4), .dv (.int .i64 a5), .dv (.seq m 1 g), .dv (.int .i64 a7)]] []
      fun r k => r = .dv (.str (ofB (textM a0 a1 a2 a3 a4 a5))) ∧ k = [] := by
  obtain ⟨o, ho⟩ : ∃ o : List UInt8 → ByteArray, ∀ l, o l = ofB l := ⟨_, fun _ => rfl⟩
  have c0 := ok_Itoa a0 h0.1 h0.2
  have c1 := ok_Itoa a1 h1.1 h1.2
  have c3 := ok_Itoa a3 h3.1 h3.2
  have c4 := ok_Itoa a4 h4.1 h4.2
  have c5 := ok_Itoa a5 h5.1 h5.2
  have l0 := Lib.itoa_length_le a0 h0.1 h0.2
  have l1 := Lib.itoa_length_le a1 h1.1 h1.2
  have l3 := Lib.itoa_length_le a3 h3.1 h3.2
  have l4 := Lib.itoa_length_le a4 h4.1 h4.2
  have l5 := Lib.itoa_length_le a5 h5.1 h5.2
  have hT : textM a0 a1 a2 a3 a4 a5 = if a4 = 0 then Lib.itoa a0 ++ letterM a2 ++ Lib.itoa a1 ++ [32] ++ Lib.itoa a3 ++ [45] ++ [46, 46] else Lib.itoa a0 ++ letterM a2 ++ Lib.itoa a1 ++ [32] ++ Lib.itoa a3 ++ [45] ++ Lib.itoa a4 ++ [32] ++ Lib.itoa a5 := rfl
  have hsub := letter_sub a2
  have hlet : ¬ (1 ≤ a2 ∧ a2 ≤ 3) → letterM a2 = [63] := fun h => by unfold letterM; rw [if_neg (by omega), if_neg (by omega), if_neg (by omega)]
  have hlt1 : (letterM a2).length = 1 := by unfold letterM; split <;> (try split) <;> (try split) <;> rfl
  rw [hT]
  generalize Lib.itoa a0 = A0 at *
  generalize Lib.itoa a1 = A1 at *
  generalize Lib.itoa a3 = A3 at *
  generalize Lib.itoa a4 = A4 at *
  generalize Lib.itoa a5 = A5 at *
  generalize letterM a2 = LT at *
  simp only [← ho] at c0 c1 c3 c4 c5 hsub ⊢
  clear hT
  refine fn_walkv mixed fn_diary_Text (Ent.refl _ _) fun bin cmp un conv bnot beq band sel isel ofN toN inb nz nneg lt le room' slb add sub sbin scmp slen sget ssub addk pc pb pi pf ps mkok min_ ig aeq P hP hA hF Q hQ => ?_
  have hss : 1 ≤ a2 ∧ a2 ≤ 3 → ssub ⟨⟨[115, 114, 120]⟩⟩ (toN (bin .sub .i64 a2 1)) (toN a2) = o LT := by
    intro h
    rw [← hsub h]
    have : ssub = fun s l h => s.extract l h := congrArg Ar.ssub hA
    rw [this]
    simp (disch := omega) only [hF, w64_in]
  have hsl : slen ⟨⟨[115, 114, 120]⟩⟩ = 3 := by simp only [hF]; rfl
  have hslb : 1 ≤ a2 ∧ a2 ≤ 3 → slb (bin .sub .i64 a2 1) a2 (ofN (slen ⟨⟨[115, 114, 120]⟩⟩)) (ofN (slen ⟨⟨[115, 114, 120]⟩⟩)) := by
    intro h
    rw [hsl]; simp (disch := omega) only [hF, w64_in]; omega
  have hcv : ∀ x y, ps .scat [.str (o x), .str (o y)] = o (x ++ y) := by
    intro x y
    have : ps = puS := congrArg Ar.ps hA
    rw [this, ho, ho, ho, ← ofB_app]; rfl
  have hcl : ∀ x y, ps .scat [.str (o x), .str ⟨⟨y⟩⟩] = o (x ++ y) := by
    intro x y
    have : ps = puS := congrArg Ar.ps hA
    rw [this, ho, ho, ← ofB_app]; rfl
  have hpcv : ∀ x y : List UInt8, x.length + y.length ≤ 1000 → pc .scat [.str (o x), .str (o y)] := by
    intro x y h
    have : pc = puC := congrArg Ar.pc hA
    rw [this, ho, ho]
    show ((x.length + y.length : Nat) : Int) ≤ 9223372036854775807
    omega
  have hpcl : ∀ x y : List UInt8, x.length + y.length ≤ 1000 → pc .scat [.str (o x), .str ⟨⟨y⟩⟩] := by
    intro x y h
    have : pc = puC := congrArg Ar.pc hA
    rw [this, ho]
    show ((x.length + y.length : Nat) : Int) ≤ 9223372036854775807
    omega
  by_cases hk : 1 ≤ a2 ∧ a2 ≤ 3
  · have hss := hss hk
    have hslb := hslb hk
    obtain ⟨hk1, hk2⟩ := hk
    by_cases he : a4 = 0
    · rw [if_pos he] at hQ
      cbv
      repeat' first
        | ((refine Chk.mk hslb ?_); cbv)
        | ((rw [hss]); cbv)
        | ((refine Chk.mk (by first | (refine hpcv _ _ ?_; (try simp only [List.length_append, List.length_cons, List.length_nil]); omega) | (refine hpcl _ _ ?_; (try simp only [List.length_append, List.length_cons, List.length_nil]); omega)) ?_); cbv)
        | ((rw [hcv]); cbv)
        | ((rw [hcl]); cbv)
        | (refine call_pure hP code_strconv_Itoa (c0) ?_ ?_; (focus (cbv; (try simp); done)); rintro _ rfl; cbv)
        | (refine call_pure hP code_strconv_Itoa (c1) ?_ ?_; (focus (cbv; (try simp); done)); rintro _ rfl; cbv)
        | (refine call_pure hP code_strconv_Itoa (c3) ?_ ?_; (focus (cbv; (try simp); done)); rintro _ rfl; cbv)
        | (refine call_pure hP code_strconv_Itoa (c4) ?_ ?_; (focus (cbv; (try simp); done)); rintro _ rfl; cbv)
        | (refine call_pure hP code_strconv_Itoa (c5) ?_ ?_; (focus (cbv; (try simp); done)); rintro _ rfl; cbv)
        | (refine Chk.mk trivial ?_; cbv)
        | (refine bc_true (by first | assumption | (simp (disch := omega) only [hF, natc, Int.ofNat_eq_natCast, w64_in, decide_eq_true_eq, decide_eq_false_iff_not, Int.toNat_natCast, Bool.not_eq_true', Bool.not_eq_false', not_true_eq_false, not_false_eq_true, Int.not_lt, Int.not_le, Bool.and_eq_true, Bool.or_eq_true, Int.ofNat_lt, Int.ofNat_le, Int.natCast_nonneg, Int.toNat_zero, Int.toNat_one, Classical.not_not, beq_self_eq_true, true_and, and_true]; first | done | assumption | omega | (simp only [natc] at *; omega))) ?_; cbv)
        | (refine bc_false (by first | assumption | (simp (disch := omega) only [hF, natc, Int.ofNat_eq_natCast, w64_in, decide_eq_true_eq, decide_eq_false_iff_not, Int.toNat_natCast, Bool.not_eq_true', Bool.not_eq_false', not_true_eq_false, not_false_eq_true, Int.not_lt, Int.not_le, Bool.and_eq_true, Bool.or_eq_true, Int.ofNat_lt, Int.ofNat_le, Int.natCast_nonneg, Int.toNat_zero, Int.toNat_one, Classical.not_not, beq_self_eq_true, true_and, and_true]; first | done | assumption | omega | (simp only [natc] at *; omega))) ?_; cbv)
        | (refine bc_split (fun h => ?_) (fun h => ?_) <;> (try simp (disch := omega) only [hF, natc, Int.ofNat_eq_natCast, w64_in, decide_eq_true_eq, decide_eq_false_iff_not, Int.toNat_natCast, Bool.not_eq_true', Bool.not_eq_false', not_true_eq_false, not_false_eq_true, Int.not_lt, Int.not_le, Bool.and_eq_true, Bool.or_eq_true, Int.ofNat_lt, Int.ofNat_le, Int.natCast_nonneg, Int.toNat_zero, Int.toNat_one, Classical.not_not, beq_self_eq_true, true_and, and_true] at h) <;> cbv)
        | (refine IdxVC.mk (by simp (disch := omega) only [hF, natc, Int.ofNat_eq_natCast, w64_in, decide_eq_true_eq, decide_eq_false_iff_not, Int.toNat_natCast, Bool.not_eq_true', Bool.not_eq_false', not_true_eq_false, not_false_eq_true, Int.not_lt, Int.not_le, Bool.and_eq_true, Bool.or_eq_true, Int.ofNat_lt, Int.ofNat_le, Int.natCast_nonneg, Int.toNat_zero, Int.toNat_one, Classical.not_not, beq_self_eq_true, true_and, and_true]; first | done | omega | (simp only [natc] at *; omega)) (fun kx hk hk2 => ?_); simp (disch := omega) only [hF, natc, Int.ofNat_eq_natCast, w64_in, decide_eq_true_eq, decide_eq_false_iff_not, Int.toNat_natCast, Bool.not_eq_true', Bool.not_eq_false', not_true_eq_false, not_false_eq_true, Int.not_lt, Int.not_le, Bool.and_eq_true, Bool.or_eq_true, Int.ofNat_lt, Int.ofNat_le, Int.natCast_nonneg, Int.toNat_zero, Int.toNat_one, Classical.not_not, beq_self_eq_true, true_and, and_true] at hk; (try obtain rfl : kx = 0 := hk); cbv)
        | (refine Chk.mk (by simp (disch := omega) only [maxN, hF, natc, Int.ofNat_eq_natCast, w64_in, decide_eq_true_eq, decide_eq_false_iff_not, Int.toNat_natCast, Bool.not_eq_true', Bool.not_eq_false', not_true_eq_false, not_false_eq_true, Int.not_lt, Int.not_le, Bool.and_eq_true, Bool.or_eq_true, Int.ofNat_lt, Int.ofNat_le, Int.natCast_nonneg, Int.toNat_zero, Int.toNat_one, Classical.not_not, beq_self_eq_true, true_and, and_true]; first | done | assumption | omega | (simp only [natc] at *; omega)) ?_; cbv)
        | (intro (hmx : _ ≤ maxN); replace hmx : _ ≤ 17592186044416 := hmx; cbv)
        | (intro _; cbv)
      all_goals first | (exfalso; clear hF hA hP hQ; omega; done) | (subst hQ; exact leaf_data rfl rfl ⟨rfl, rfl⟩) | trace_state
    · rw [if_neg he] at hQ
      cbv
      repeat' first
        | ((refine Chk.mk hslb ?_); cbv)
        | ((rw [hss]); cbv)
        | ((refine Chk.mk (by first | (refine hpcv _ _ ?_; (try simp only [List.length_append, List.length_cons, List.length_nil]); omega) | (refine hpcl _ _ ?_; (try simp only [List.length_append, List.length_cons, List.length_nil]); omega)) ?_); cbv)
        | ((rw [hcv]); cbv)
        | ((rw [hcl]); cbv)
        | (refine call_pure hP code_strconv_Itoa (c0) ?_ ?_; (focus (cbv; (try simp); done)); rintro _ rfl; cbv)
        | (refine call_pure hP code_strconv_Itoa (c1) ?_ ?_; (focus (cbv; (try simp); done)); rintro _ rfl; cbv)
        | (refine call_pure hP code_strconv_Itoa (c3) ?_ ?_; (focus (cbv; (try simp); done)); rintro _ rfl; cbv)
        | (refine call_pure hP code_strconv_Itoa (c4) ?_ ?_; (focus (cbv; (try simp); done)); rintro _ rfl; cbv)
        | (refine call_pure hP code_strconv_Itoa (c5) ?_ ?_; (focus (cbv; (try simp); done)); rintro _ rfl; cbv)
        | (refine Chk.mk trivial ?_; cbv)
        | (refine bc_true (by first | assumption | (simp (disch := omega) only [hF, natc, Int.ofNat_eq_natCast, w64_in, decide_eq_true_eq, decide_eq_false_iff_not, Int.toNat_natCast, Bool.not_eq_true', Bool.not_eq_false', not_true_eq_false, not_false_eq_true, Int.not_lt, Int.not_le, Bool.and_eq_true, Bool.or_eq_true, Int.ofNat_lt, Int.ofNat_le, Int.natCast_nonneg, Int.toNat_zero, Int.toNat_one, Classical.not_not, beq_self_eq_true, true_and, and_true]; first | done | assumption | omega | (simp only [natc] at *; omega))) ?_; cbv)
        | (refine bc_false (by first | assumption | (simp (disch := omega) only [hF, natc, Int.ofNat_eq_natCast, w64_in, decide_eq_true_eq, decide_eq_false_iff_not, Int.toNat_natCast, Bool.not_eq_true', Bool.not_eq_false', not_true_eq_false, not_false_eq_true, Int.not_lt, Int.not_le, Bool.and_eq_true, Bool.or_eq_true, Int.ofNat_lt, Int.ofNat_le, Int.natCast_nonneg, Int.toNat_zero, Int.toNat_one, Classical.not_not, beq_self_eq_true, true_and, and_true]; first | done | assumption | omega | (simp only [natc] at *; omega))) ?_; cbv)
        | (refine bc_split (fun h => ?_) (fun h => ?_) <;> (try simp (disch := omega) only [hF, natc, Int.ofNat_eq_natCast, w64_in, decide_eq_true_eq, decide_eq_false_iff_not, Int.toNat_natCast, Bool.not_eq_true', Bool.not_eq_false', not_true_eq_false, not_false_eq_true, Int.not_lt, Int.not_le, Bool.and_eq_true, Bool.or_eq_true, Int.ofNat_lt, Int.ofNat_le, Int.natCast_nonneg, Int.toNat_zero, Int.toNat_one, Classical.not_not, beq_self_eq_true, true_and, and_true] at h) <;> cbv)
        | (refine IdxVC.mk (by simp (disch := omega) only [hF, natc, Int.ofNat_eq_natCast, w64_in, decide_eq_true_eq, decide_eq_false_iff_not, Int.toNat_natCast, Bool.not_eq_true', Bool.not_eq_false', not_true_eq_false, not_false_eq_true, Int.not_lt, Int.not_le, Bool.and_eq_true, Bool.or_eq_true, Int.ofNat_lt, Int.ofNat_le, Int.natCast_nonneg, Int.toNat_zero, Int.toNat_one, Classical.not_not, beq_self_eq_true, true_and, and_true]; first | done | omega | (simp only [natc] at *; omega)) (fun kx hk hk2 => ?_); simp (disch := omega) only [hF, natc, Int.ofNat_eq_natCast, w64_in, decide_eq_true_eq, decide_eq_false_iff_not, Int.toNat_natCast, Bool.not_eq_true', Bool.not_eq_false', not_true_eq_false, not_false_eq_true, Int.not_lt, Int.not_le, Bool.and_eq_true, Bool.or_eq_true, Int.ofNat_lt, Int.ofNat_le, Int.natCast_nonneg, Int.toNat_zero, Int.toNat_one, Classical.not_not, beq_self_eq_true, true_and, and_true] at hk; (try obtain rfl : kx = 0 := hk); cbv)
        | (refine Chk.mk (by simp (disch := omega) only [maxN, hF, natc, Int.ofNat_eq_natCast, w64_in, decide_eq_true_eq, decide_eq_false_iff_not, Int.toNat_natCast, Bool.not_eq_true', Bool.not_eq_false', not_true_eq_false, not_false_eq_true, Int.not_lt, Int.not_le, Bool.and_eq_true, Bool.or_eq_true, Int.ofNat_lt, Int.ofNat_le, Int.natCast_nonneg, Int.toNat_zero, Int.toNat_one, Classical.not_not, beq_self_eq_true, true_and, and_true]; first | done | assumption | omega | (simp only [natc] at *; omega)) ?_; cbv)
        | (intro (hmx : _ ≤ maxN); replace hmx : _ ≤ 17592186044416 := hmx; cbv)
        | (intro _; cbv)
      all_goals first | (exfalso; clear hF hA hP hQ; omega; done) | (subst hQ; exact leaf_data rfl rfl ⟨rfl, rfl⟩) | trace_state
  · obtain rfl : LT = [63] := hlet hk
    clear hss hslb hsub
    by_cases he : a4 = 0
    · rw [if_pos he] at hQ
      cbv
      repeat' first
        | ((refine Chk.mk (by first | (refine hpcv _ _ ?_; (try simp only [List.length_append, List.length_cons, List.length_nil]); omega) | (refine hpcl _ _ ?_; (try simp only [List.length_append, List.length_cons, List.length_nil]); omega)) ?_); cbv)
        | ((rw [hcv]); cbv)
        | ((rw [hcl]); cbv)
        | (refine call_pure hP code_strconv_Itoa (c0) ?_ ?_; (focus (cbv; (try simp); done)); rintro _ rfl; cbv)
        | (refine call_pure hP code_strconv_Itoa (c1) ?_ ?_; (focus (cbv; (try simp); done)); rintro _ rfl; cbv)
        | (refine call_pure hP code_strconv_Itoa (c3) ?_ ?_; (focus (cbv; (try simp); done)); rintro _ rfl; cbv)
        | (refine call_pure hP code_strconv_Itoa (c4) ?_ ?_; (focus (cbv; (try simp); done)); rintro _ rfl; cbv)
        | (refine call_pure hP code_strconv_Itoa (c5) ?_ ?_; (focus (cbv; (try simp); done)); rintro _ rfl; cbv)
        | (refine Chk.mk trivial ?_; cbv)
        | (refine bc_true (by first | assumption | (simp (disch := omega) only [hF, natc, Int.ofNat_eq_natCast, w64_in, decide_eq_true_eq, decide_eq_false_iff_not, Int.toNat_natCast, Bool.not_eq_true', Bool.not_eq_false', not_true_eq_false, not_false_eq_true, Int.not_lt, Int.not_le, Bool.and_eq_true, Bool.or_eq_true, Int.ofNat_lt, Int.ofNat_le, Int.natCast_nonneg, Int.toNat_zero, Int.toNat_one, Classical.not_not, beq_self_eq_true, true_and, and_true]; first | done | assumption | omega | (simp only [natc] at *; omega))) ?_; cbv)
        | (refine bc_false (by first | assumption | (simp (disch := omega) only [hF, natc, Int.ofNat_eq_natCast, w64_in, decide_eq_true_eq, decide_eq_false_iff_not, Int.toNat_natCast, Bool.not_eq_true', Bool.not_eq_false', not_true_eq_false, not_false_eq_true, Int.not_lt, Int.not_le, Bool.and_eq_true, Bool.or_eq_true, Int.ofNat_lt, Int.ofNat_le, Int.natCast_nonneg, Int.toNat_zero, Int.toNat_one, Classical.not_not, beq_self_eq_true, true_and, and_true]; first | done | assumption | omega | (simp only [natc] at *; omega))) ?_; cbv)
        | (refine bc_split (fun h => ?_) (fun h => ?_) <;> (try simp (disch := omega) only [hF, natc, Int.ofNat_eq_natCast, w64_in, decide_eq_true_eq, decide_eq_false_iff_not, Int.toNat_natCast, Bool.not_eq_true', Bool.not_eq_false', not_true_eq_false, not_false_eq_true, Int.not_lt, Int.not_le, Bool.and_eq_true, Bool.or_eq_true, Int.ofNat_lt, Int.ofNat_le, Int.natCast_nonneg, Int.toNat_zero, Int.toNat_one, Classical.not_not, beq_self_eq_true, true_and, and_true] at h) <;> cbv)
        | (refine IdxVC.mk (by simp (disch := omega) only [hF, natc, Int.ofNat_eq_natCast, w64_in, decide_eq_true_eq, decide_eq_false_iff_not, Int.toNat_natCast, Bool.not_eq_true', Bool.not_eq_false', not_true_eq_false, not_false_eq_true, Int.not_lt, Int.not_le, Bool.and_eq_true, Bool.or_eq_true, Int.ofNat_lt, Int.ofNat_le, Int.natCast_nonneg, Int.toNat_zero, Int.toNat_one, Classical.not_not, beq_self_eq_true, true_and, and_true]; first | done | omega | (simp only [natc] at *; omega)) (fun kx hk hk2 => ?_); simp (disch := omega) only [hF, natc, Int.ofNat_eq_natCast, w64_in, decide_eq_true_eq, decide_eq_false_iff_not, Int.toNat_natCast, Bool.not_eq_true', Bool.not_eq_false', not_true_eq_false, not_false_eq_true, Int.not_lt, Int.not_le, Bool.and_eq_true, Bool.or_eq_true, Int.ofNat_lt, Int.ofNat_le, Int.natCast_nonneg, Int.toNat_zero, Int.toNat_one, Classical.not_not, beq_self_eq_true, true_and, and_true] at hk; (try obtain rfl : kx = 0 := hk); cbv)
        | (refine Chk.mk (by simp (disch := omega) only [maxN, hF, natc, Int.ofNat_eq_natCast, w64_in, decide_eq_true_eq, decide_eq_false_iff_not, Int.toNat_natCast, Bool.not_eq_true', Bool.not_eq_false', not_true_eq_false, not_false_eq_true, Int.not_lt, Int.not_le, Bool.and_eq_true, Bool.or_eq_true, Int.ofNat_lt, Int.ofNat_le, Int.natCast_nonneg, Int.toNat_zero, Int.toNat_one, Classical.not_not, beq_self_eq_true, true_and, and_true]; first | done | assumption | omega | (simp only [natc] at *; omega)) ?_; cbv)
        | (intro (hmx : _ ≤ maxN); replace hmx : _ ≤ 17592186044416 := hmx; cbv)
        | (intro _; cbv)
      all_goals first | (exfalso; clear hF hA hP hQ; omega; done) | (subst hQ; exact leaf_data rfl rfl ⟨rfl, rfl⟩) | trace_state
    · rw [if_neg he] at hQ
      cbv
      repeat' first
        | ((refine Chk.mk (by first | (refine hpcv _ _ ?_; (try simp only [List.length_append, List.length_cons, List.length_nil]); omega) | (refine hpcl _ _ ?_; (try simp only [List.length_append, List.length_cons, List.length_nil]); omega)) ?_); cbv)
        | ((rw [hcv]); cbv)
        | ((rw [hcl]); cbv)
        | (refine call_pure hP code_strconv_Itoa (c0) ?_ ?_; (focus (cbv; (try simp); done)); rintro _ rfl; cbv)
        | (refine call_pure hP code_strconv_Itoa (c1) ?_ ?_; (focus (cbv; (try simp); done)); rintro _ rfl; cbv)
        | (refine call_pure hP code_strconv_Itoa (c3) ?_ ?_; (focus (cbv; (try simp); done)); rintro _ rfl; cbv)
        | (refine call_pure hP code_strconv_Itoa (c4) ?_ ?_; (focus (cbv; (try simp); done)); rintro _ rfl; cbv)
        | (refine call_pure hP code_strconv_Itoa (c5) ?_ ?_; (focus (cbv; (try simp); done)); rintro _ rfl; cbv)
        | (refine Chk.mk trivial ?_; cbv)
        | (refine bc_true (by first | assumption | (simp (disch := omega) only [hF, natc, Int.ofNat_eq_natCast, w64_in, decide_eq_true_eq, decide_eq_false_iff_not, Int.toNat_natCast, Bool.not_eq_true', Bool.not_eq_false', not_true_eq_false, not_false_eq_true, Int.not_lt, Int.not_le, Bool.and_eq_true, Bool.or_eq_true, Int.ofNat_lt, Int.ofNat_le, Int.natCast_nonneg, Int.toNat_zero, Int.toNat_one, Classical.not_not, beq_self_eq_true, true_and, and_true]; first | done | assumption | omega | (simp only [natc] at *; omega))) ?_; cbv)
        | (refine bc_false (by first | assumption | (simp (disch := omega) only [hF, natc, Int.ofNat_eq_natCast, w64_in, decide_eq_true_eq, decide_eq_false_iff_not, Int.toNat_natCast, Bool.not_eq_true', Bool.not_eq_false', not_true_eq_false, not_false_eq_true, Int.not_lt, Int.not_le, Bool.and_eq_true, Bool.or_eq_true, Int.ofNat_lt, Int.ofNat_le, Int.natCast_nonneg, Int.toNat_zero, Int.toNat_one, Classical.not_not, beq_self_eq_true, true_and, and_true]; first | done | assumption | omega | (simp only [natc] at *; omega))) ?_; cbv)
        | (refine bc_split (fun h => ?_) (fun h => ?_) <;> (try simp (disch := omega) only [hF, natc, Int.ofNat_eq_natCast, w64_in, decide_eq_true_eq, decide_eq_false_iff_not, Int.toNat_natCast, Bool.not_eq_true', Bool.not_eq_false', not_true_eq_false, not_false_eq_true, Int.not_lt, Int.not_le, Bool.and_eq_true, Bool.or_eq_true, Int.ofNat_lt, Int.ofNat_le, Int.natCast_nonneg, Int.toNat_zero, Int.toNat_one, Classical.not_not, beq_self_eq_true, true_and, and_true] at h) <;> cbv)
        | (refine IdxVC.mk (by simp (disch := omega) only [hF, natc, Int.ofNat_eq_natCast, w64_in, decide_eq_true_eq, decide_eq_false_iff_not, Int.toNat_natCast, Bool.not_eq_true', Bool.not_eq_false', not_true_eq_false, not_false_eq_true, Int.not_lt, Int.not_le, Bool.and_eq_true, Bool.or_eq_true, Int.ofNat_lt, Int.ofNat_le, Int.natCast_nonneg, Int.toNat_zero, Int.toNat_one, Classical.not_not, beq_self_eq_true, true_and, and_true]; first | done | omega | (simp only [natc] at *; omega)) (fun kx hk hk2 => ?_); simp (disch := omega) only [hF, natc, Int.ofNat_eq_natCast, w64_in, decide_eq_true_eq, decide_eq_false_iff_not, Int.toNat_natCast, Bool.not_eq_true', Bool.not_eq_false', not_true_eq_false, not_false_eq_true, Int.not_lt, Int.not_le, Bool.and_eq_true, Bool.or_eq_true, Int.ofNat_lt, Int.ofNat_le, Int.natCast_nonneg, Int.toNat_zero, Int.toNat_one, Classical.not_not, beq_self_eq_true, true_and, and_true] at hk; (try obtain rfl : kx = 0 := hk); cbv)
        | (refine Chk.mk (by simp (disch := omega) only [maxN, hF, natc, Int.ofNat_eq_natCast, w64_in, decide_eq_true_eq, decide_eq_false_iff_not, Int.toNat_natCast, Bool.not_eq_true', Bool.not_eq_false', not_true_eq_false, not_false_eq_true, Int.not_lt, Int.not_le, Bool.and_eq_true, Bool.or_eq_true, Int.ofNat_lt, Int.ofNat_le, Int.natCast_nonneg, Int.toNat_zero, Int.toNat_one, Classical.not_not, beq_self_eq_true, true_and, and_true]; first | done | assumption | omega | (simp only [natc] at *; omega)) ?_; cbv)
        | (intro (hmx : _ ≤ maxN); replace hmx : _ ≤ 17592186044416 := hmx; cbv)
        | (intro _; cbv)
      all_goals first | (exfalso; clear hF hA hP hQ; omega; done) | (subst hQ; exact leaf_data rfl rfl ⟨rfl, rfl⟩) | trace_state

end Go.Proofs.YtophlodlencgiaaDoor
