/-
  A giver that is nil sends nothing: the law.
-/
import Derived.Test.YtjfkoehlhgdmgaaDoorGnA
namespace Go.Proofs.YtjfkoehlhgdmgaaDoor
open Go.V
set_option linter.unusedVariables false
set_option linter.unusedSimpArgs false
set_option maxRecDepth 100000
set_option maxHeartbeats 8000000

def isOne : SV → List (Chunk Ob) → Bool
  | .dv (.int .i64 n), _ => decide (n = 1)
  | _, _ => false
def isZero : SV → List (Chunk Ob) → Bool
  | .dv (.int .i64 n), _ => decide (n = 0)
  | _, _ => false
def isFalse : SV → List (Chunk Ob) → Bool
  | .dv (.bool false), _ => true
  | _, _ => false
def isNils : SV → List (Chunk Ob) → Bool
  | .dv .nils, _ => true
  | _, _ => false
def isYesOne : SV → List (Chunk Ob) → Bool
  | .tup [.dv (.bool true), .dv (.int .i64 k)], _ => decide (k = 1)
  | _, _ => false

theorem isOne_ok {r : SV} {m : List (Chunk Ob)} (h : isOne r m = true) : r = .dv (.int .i64 1) := by
  unfold isOne at h
  split at h
  · rw [of_decide_eq_true h]
  · cases h
theorem isZero_ok {r : SV} {m : List (Chunk Ob)} (h : isZero r m = true) : r = .dv (.int .i64 0) := by
  unfold isZero at h
  split at h
  · rw [of_decide_eq_true h]
  · cases h
theorem isFalse_ok {r : SV} {m : List (Chunk Ob)} (h : isFalse r m = true) : r = .dv (.bool false) := by
  unfold isFalse at h
  split at h
  · rfl
  · cases h
theorem isNils_ok {r : SV} {m : List (Chunk Ob)} (h : isNils r m = true) : r = .dv .nils := by
  unfold isNils at h
  split at h
  · rfl
  · cases h
theorem isYesOne_ok {r : SV} {m : List (Chunk Ob)} (h : isYesOne r m = true) : r = .tup [.dv (.bool true), .dv (.int .i64 1)] := by
  unfold isYesOne at h
  split at h
  · rw [of_decide_eq_true h]
  · cases h

theorem tell {f : FuncId} {args : List SV} {q : SV} (h : CallOK (O := Ob) PR f args [] fun r _ => r = q) (hq : VLe [] q q) : CallOK (O := Ob) PR f args [] fun r m => r = q ∧ m = [] :=
  CallOK.drop (h.mono fun r _ e => ⟨q, by rw [e]; exact hq, rfl⟩)

theorem no_Send (n : Nat) (l : Nat → Nat → DV) : CallOK (O := Ob) PR n_giver_Giver_Send [.dv .nilp, .dv (.seq n 1 l)] [] fun r m => r = .dv (.int .i64 1) ∧ m = [] :=
  tell ((run_call mixed T0_ok 100 20 isOne (by kernel_rfl)).mono fun _ _ h => isOne_ok h) rfl
theorem no_Busy : CallOK (O := Ob) PR n_giver_Giver_Busy [.dv .nilp] [] fun r m => r = .dv (.bool false) ∧ m = [] :=
  tell ((run_call mixed T0_ok 100 20 isFalse (by kernel_rfl)).mono fun _ _ h => isFalse_ok h) rfl
theorem no_Linked : CallOK (O := Ob) PR n_giver_Giver_Linked [.dv .nilp] [] fun r m => r = .dv (.bool false) ∧ m = [] :=
  tell ((run_call mixed T0_ok 100 20 isFalse (by kernel_rfl)).mono fun _ _ h => isFalse_ok h) rfl
theorem no_Free : CallOK (O := Ob) PR n_giver_Giver_Free [.dv .nilp] [] fun r m => r = .dv .nils ∧ m = [] :=
  tell ((run_call mixed T0_ok 100 20 isNils (by kernel_rfl)).mono fun _ _ h => isNils_ok h) rfl
theorem no_Out : CallOK (O := Ob) PR n_giver_Giver_Out [.dv .nilp] [] fun r m => r = .dv .nils ∧ m = [] :=
  tell ((run_call mixed T0_ok 100 20 isNils (by kernel_rfl)).mono fun _ _ h => isNils_ok h) rfl
theorem no_Bound : CallOK (O := Ob) PR n_giver_Giver_Bound [.dv .nilp] [] fun r m => r = .dv (.int .i64 0) ∧ m = [] :=
  tell ((run_call mixed T0_ok 100 20 isZero (by kernel_rfl)).mono fun _ _ h => isZero_ok h) rfl
theorem no_Step (x : SV) (mem : List (Chunk Ob)) : CallOK (O := Ob) PR n_giver_Giver_Step [.dv .nilp, .ifc 27 x] mem fun r m => r = .tup [.dv (.bool true), .dv (.int .i64 1)] :=
  (run_call mixed T0_ok 100 20 isYesOne (by kernel_rfl)).mono fun _ _ h => isYesOne_ok h
theorem ok_alive : CallOK (O := Ob) PR n_law16_alive [] [] fun r m => r = .dv (.bool true) ∧ m = [] := tell ok_alive16 rfl

theorem ok_GiverNobody {n : Nat} {g : Nat → Nat → DV} (hk : n ≤ 17592186044416) (x0 : Nat → Int) (hg : ∀ i, i < n → g i 0 = .int .i64 (x0 i)) :
    CallOK (O := Ob) PR n_law16_GiverNobody [.dv (.seq n 1 g)] [] fun r m => r = .dv (.bool true) ∧ m = [] := by
  have hw := ok_words hk x0 hg
  refine fn_walkv mixed fn_law16_GiverNobody (Ent.refl _ _) fun bin cmp un conv bnot beq band sel isel ofN toN inb nz nneg lt le room' slb add sub sbin scmp slen sget ssub addk pc pb pi pf ps mkok min_ ig aeq P hP hA hF Q hQ => ?_
  cbv
  repeat' first
    | (refine Chk.mk trivial ?_; cbv)
    | (refine bc_true (by first | assumption | (simp (disch := omega) only [hF, natc, w64_in, decide_eq_true_eq, decide_eq_false_iff_not, Int.toNat_natCast, Bool.not_eq_true', Bool.not_eq_false', not_true_eq_false, not_false_eq_true, Int.not_lt, Int.not_le, Bool.and_eq_true, Bool.or_eq_true, Int.ofNat_lt, Int.ofNat_le, Int.natCast_nonneg, Int.toNat_zero, Int.toNat_one, Classical.not_not, beq_self_eq_true, true_and, and_true]; first | done | assumption | omega | (simp only [natc] at *; omega))) ?_; cbv)
    | (refine bc_false (by first | assumption | (simp (disch := omega) only [hF, natc, w64_in, decide_eq_true_eq, decide_eq_false_iff_not, Int.toNat_natCast, Bool.not_eq_true', Bool.not_eq_false', not_true_eq_false, not_false_eq_true, Int.not_lt, Int.not_le, Bool.and_eq_true, Bool.or_eq_true, Int.ofNat_lt, Int.ofNat_le, Int.natCast_nonneg, Int.toNat_zero, Int.toNat_one, Classical.not_not, beq_self_eq_true, true_and, and_true]; first | done | assumption | omega | (simp only [natc] at *; omega))) ?_; cbv)
    | (refine bc_split (fun h => ?_) (fun h => ?_) <;> (try simp (disch := omega) only [hF, natc, w64_in, decide_eq_true_eq, decide_eq_false_iff_not, Int.toNat_natCast, Bool.not_eq_true', Bool.not_eq_false', not_true_eq_false, not_false_eq_true, Int.not_lt, Int.not_le, Bool.and_eq_true, Bool.or_eq_true, Int.ofNat_lt, Int.ofNat_le, Int.natCast_nonneg, Int.toNat_zero, Int.toNat_one, Classical.not_not, beq_self_eq_true, true_and, and_true] at h) <;> cbv)
    | (refine IdxVC.mk (by simp (disch := omega) only [hF, natc, w64_in, decide_eq_true_eq, decide_eq_false_iff_not, Int.toNat_natCast, Bool.not_eq_true', Bool.not_eq_false', not_true_eq_false, not_false_eq_true, Int.not_lt, Int.not_le, Bool.and_eq_true, Bool.or_eq_true, Int.ofNat_lt, Int.ofNat_le, Int.natCast_nonneg, Int.toNat_zero, Int.toNat_one, Classical.not_not, beq_self_eq_true, true_and, and_true]; first | done | omega | (simp only [natc] at *; omega)) (fun kx hk hk2 => ?_); simp (disch := omega) only [hF, natc, w64_in, decide_eq_true_eq, decide_eq_false_iff_not, Int.toNat_natCast, Bool.not_eq_true', Bool.not_eq_false', not_true_eq_false, not_false_eq_true, Int.not_lt, Int.not_le, Bool.and_eq_true, Bool.or_eq_true, Int.ofNat_lt, Int.ofNat_le, Int.natCast_nonneg, Int.toNat_zero, Int.toNat_one, Classical.not_not, beq_self_eq_true, true_and, and_true] at hk; (try obtain rfl : kx = 0 := hk); cbv)
    | (refine Chk.mk (by simp (disch := omega) only [maxN, hF, natc, w64_in, decide_eq_true_eq, decide_eq_false_iff_not, Int.toNat_natCast, Bool.not_eq_true', Bool.not_eq_false', not_true_eq_false, not_false_eq_true, Int.not_lt, Int.not_le, Bool.and_eq_true, Bool.or_eq_true, Int.ofNat_lt, Int.ofNat_le, Int.natCast_nonneg, Int.toNat_zero, Int.toNat_one, Classical.not_not, beq_self_eq_true, true_and, and_true]; first | done | assumption | omega | (simp only [natc] at *; omega)) ?_; cbv)
    | (intro (hmx : _ ≤ maxN); replace hmx : _ ≤ 17592186044416 := hmx; cbv)
    | (intro _; cbv)
    | (refine call_inl hP mixed hA code_port_OfWords fn_port_OfWords ?_; cbv)
    | (refine call_pure hP code_port_words (hw) ?_ ?_; (focus (cbv; (try simp); done)); rintro _ ⟨H, rfl⟩; cbv)
    | ((refine call_whole hP code_giver_Giver_Step (no_Step _ _) rfl ?_; rintro _ m rfl _); cbv)
    | (refine call_pure hP code_giver_Giver_Send ((no_Send n g)) ?_ ?_; (focus (cbv; (try simp); done)); rintro _ rfl; cbv)
    | (refine call_pure hP code_giver_Giver_Busy (no_Busy) ?_ ?_; (focus (cbv; (try simp); done)); rintro _ rfl; cbv)
    | (refine call_pure hP code_giver_Giver_Linked (no_Linked) ?_ ?_; (focus (cbv; (try simp); done)); rintro _ rfl; cbv)
    | (refine call_pure hP code_giver_Giver_Free (no_Free) ?_ ?_; (focus (cbv; (try simp); done)); rintro _ rfl; cbv)
    | (refine call_pure hP code_giver_Giver_Out (no_Out) ?_ ?_; (focus (cbv; (try simp); done)); rintro _ rfl; cbv)
    | (refine call_pure hP code_giver_Giver_Bound (no_Bound) ?_ ?_; (focus (cbv; (try simp); done)); rintro _ rfl; cbv)
    | (refine call_pure hP code_law16_alive (ok_alive) ?_ ?_; (focus (cbv; (try simp); done)); rintro _ rfl; cbv)
  subst hQ
  exact leaf_data rfl rfl ⟨rfl, rfl⟩

end Go.Proofs.YtjfkoehlhgdmgaaDoor
