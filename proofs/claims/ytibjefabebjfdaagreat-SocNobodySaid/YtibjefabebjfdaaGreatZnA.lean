/-
  A soc that is nil: its calls; the law.
-/
import Derived.Test.YtibjefabebjfdaaGreatZnIr
namespace Go.Proofs.YtibjefabebjfdaaGreat
open Go.V

theorem plan_eq : EqAg PR 29 3 := eqAg_ints (by kernel_rfl) (by kernel_rfl) (by kernel_rfl) (by kernel_rfl)

def T0 : Tb Ob := mkTb tabL methL [] []
theorem T0_ok : Tb.OK PR T0 := mkTb_ok tabL_ok methL_ok (fun _ h => nomatch h) (fun _ h => nomatch h)

def isOne : SV → List (Chunk Ob) → Bool
  | .dv (.int .i64 n), _ => decide (n = 1)
  | _, _ => false
def isZeroOne : SV → List (Chunk Ob) → Bool
  | .tup [.dv (.int .i64 n), .dv (.int .i64 k)], _ => decide (n = 0) && decide (k = 1)
  | _, _ => false
def isNoOne : SV → List (Chunk Ob) → Bool
  | .tup [.dv (.bool false), .dv (.int .i64 k)], _ => decide (k = 1)
  | _, _ => false

theorem isOne_ok {r : SV} {m : List (Chunk Ob)} (h : isOne r m = true) : r = .dv (.int .i64 1) := by
  unfold isOne at h
  split at h
  · rw [of_decide_eq_true h]
  · cases h
theorem isZeroOne_ok {r : SV} {m : List (Chunk Ob)} (h : isZeroOne r m = true) : r = .tup [.dv (.int .i64 0), .dv (.int .i64 1)] := by
  unfold isZeroOne at h
  split at h
  · simp only [Bool.and_eq_true] at h
    rw [of_decide_eq_true h.1, of_decide_eq_true h.2]
  · cases h
theorem isNoOne_ok {r : SV} {m : List (Chunk Ob)} (h : isNoOne r m = true) : r = .tup [.dv (.bool false), .dv (.int .i64 1)] := by
  unfold isNoOne at h
  split at h
  · rw [of_decide_eq_true h]
  · cases h

theorem tell {f : FuncId} {args : List SV} {q : SV} (h : CallOK (O := Ob) PR f args [] fun r _ => r = q) (hq : VLe [] q q) : CallOK (O := Ob) PR f args [] fun r m => r = q ∧ m = [] :=
  CallOK.drop (h.mono fun r _ e => ⟨q, by rw [e]; exact hq, rfl⟩)

theorem ok_Write (c a w : Int) : CallOK (O := Ob) PR n_soc_Soc_Write [.dv .nilp, .dv (.int .i64 c), .dv (.int .i64 a), .dv (.int .i64 w)] [] fun r m => r = .dv (.int .i64 1) ∧ m = [] :=
  tell ((run_call mixed T0_ok 100 20 isOne (by kernel_rfl)).mono fun _ _ h => isOne_ok h) rfl
theorem ok_Hold (c : Int) : CallOK (O := Ob) PR n_soc_Soc_Hold [.dv .nilp, .dv (.int .i64 c)] [] fun r m => r = .dv (.int .i64 1) ∧ m = [] :=
  tell ((run_call mixed T0_ok 100 20 isOne (by kernel_rfl)).mono fun _ _ h => isOne_ok h) rfl
theorem ok_Start (c : Int) : CallOK (O := Ob) PR n_soc_Soc_Start [.dv .nilp, .dv (.int .i64 c)] [] fun r m => r = .dv (.int .i64 1) ∧ m = [] :=
  tell ((run_call mixed T0_ok 100 20 isOne (by kernel_rfl)).mono fun _ _ h => isOne_ok h) rfl
theorem ok_Fence (c : Int) : CallOK (O := Ob) PR n_soc_Soc_Fence [.dv .nilp, .dv (.int .i64 c)] [] fun r m => r = .tup [.dv (.int .i64 0), .dv (.int .i64 1)] ∧ m = [] :=
  tell ((run_call mixed T0_ok 100 20 isZeroOne (by kernel_rfl)).mono fun _ _ h => isZeroOne_ok h) (by trivial)
theorem ok_Drain (c : Int) : CallOK (O := Ob) PR n_soc_Soc_Drain [.dv .nilp, .dv (.int .i64 c)] [] fun r m => r = .tup [.dv (.bool false), .dv (.int .i64 1)] ∧ m = [] :=
  tell ((run_call mixed T0_ok 100 20 isNoOne (by kernel_rfl)).mono fun _ _ h => isNoOne_ok h) (by trivial)
theorem ok_Swap (c a w : Int) : CallOK (O := Ob) PR n_soc_Soc_Swap [.dv .nilp, .dv (.int .i64 c), .dv (.int .i64 a), .dv (.int .i64 w)] [] fun r m => r = .tup [.dv (.int .i64 0), .dv (.int .i64 1)] ∧ m = [] :=
  tell ((run_call mixed T0_ok 100 20 isZeroOne (by kernel_rfl)).mono fun _ _ h => isZeroOne_ok h) (by trivial)
theorem ok_Read (c a : Int) : CallOK (O := Ob) PR n_soc_Soc_Read [.dv .nilp, .dv (.int .i64 c), .dv (.int .i64 a)] [] fun r m => r = .tup [.dv (.int .i64 0), .dv (.int .i64 1)] ∧ m = [] :=
  tell ((run_call mixed T0_ok 100 20 isZeroOne (by kernel_rfl)).mono fun _ _ h => isZeroOne_ok h) (by trivial)

set_option maxHeartbeats 4000000 in
theorem ok_Do (k c a w : Int) : CallOK (O := Ob) PR n_law12_Do [.dv .nilp, .agg [.dv (.int .i64 k), .dv (.int .i64 c), .dv (.int .i64 a), .dv (.int .i64 w)]] [] fun r m => r = .tup [.dv (.int .i64 0), .dv (.int .i64 1)] ∧ m = [] := by
  refine CallOK.drop (fn_walk mixed fn_law12_Do fun A P hA hP Q hQ => ?_)
  cbv
  refine bc_split (fun h0 => ?_) (fun h0 => ?_)
  · cbv
    refine call_pure hP code_soc_Soc_Write (ok_Write c a w) (by cbv; all_goals simp) ?_
    rintro _ rfl
    cbv
    subst hQ hA
    exact ⟨_, by trivial, rfl⟩
  · cbv
    refine bc_split (fun h1 => ?_) (fun h1 => ?_)
    · cbv
      refine call_pure hP code_soc_Soc_Fence (ok_Fence c) (by cbv; all_goals simp) ?_
      rintro _ rfl
      cbv
      subst hQ hA
      exact ⟨_, by trivial, rfl⟩
    · cbv
      refine bc_split (fun h2 => ?_) (fun h2 => ?_)
      · cbv
        refine call_pure hP code_soc_Soc_Drain (ok_Drain c) (by cbv; all_goals simp) ?_
        rintro _ rfl
        cbv
        subst hQ hA
        exact ⟨_, by trivial, rfl⟩
      · cbv
        refine bc_split (fun h3 => ?_) (fun h3 => ?_)
        · cbv
          refine call_pure hP code_soc_Soc_Swap (ok_Swap c a w) (by cbv; all_goals simp) ?_
          rintro _ rfl
          cbv
          subst hQ hA
          exact ⟨_, by trivial, rfl⟩
        · cbv
          refine bc_split (fun h4 => ?_) (fun h4 => ?_)
          · cbv
            refine call_pure hP code_soc_Soc_Hold (ok_Hold c) (by cbv; all_goals simp) ?_
            rintro _ rfl
            cbv
            subst hQ hA
            exact ⟨_, by trivial, rfl⟩
          · cbv
            refine bc_split (fun h5 => ?_) (fun h5 => ?_)
            · cbv
              refine call_pure hP code_soc_Soc_Start (ok_Start c) (by cbv; all_goals simp) ?_
              rintro _ rfl
              cbv
              subst hQ hA
              exact ⟨_, by trivial, rfl⟩
            · cbv
              refine call_pure hP code_soc_Soc_Read (ok_Read c a) (by cbv; all_goals simp) ?_
              rintro _ rfl
              cbv
              subst hQ hA
              exact ⟨_, by trivial, rfl⟩

def doP : Prim Ob := fun args mem =>
  match args with
  | [.dv .nilp, .agg [.dv (.int .i64 _), .dv (.int .i64 _), .dv (.int .i64 _), .dv (.int .i64 _)]] => some (.tup [.dv (.int .i64 0), .dv (.int .i64 1)], mem)
  | _ => none

theorem doP_ok (args : List SV) (mem : List (Chunk Ob)) (r : SV) (m' : List (Chunk Ob)) (h : doP args mem = some (r, m')) : CallOK PR n_law12_Do args mem fun r1 m1 => r1 = r ∧ m1 = m' := by
  unfold doP at h
  split at h
  · rename_i k c a w
    simp only [Option.some.injEq, Prod.mk.injEq] at h
    obtain ⟨rfl, rfl⟩ := h
    refine ((ok_Do k c a w).frame (by trivial) mem).mono ?_
    rintro _ _ ⟨⟨_, rfl, rfl⟩, rfl⟩
    exact ⟨rfl, rfl⟩
  · cases h

def TT : Tb Ob := mkTb (tabL.filter fun p => !(Nat.beq p.1 5)) methL [(29, 3)] [(5, doP)]
theorem TT_ok : Tb.OK PR TT := mkTb_ok (fun p h => tabL_ok p ((List.mem_filter.1 h).1)) methL_ok (List.forall_mem_cons.2 ⟨plan_eq, fun _ h => nomatch h⟩)
  (List.forall_mem_cons.2 ⟨⟨code_law12_Do, doP_ok⟩, fun _ h => nomatch h⟩)

theorem ok_SocNobody (k c a w : Int) : CallOK (O := Ob) PR n_law12_SocNobody [.agg [.dv (.int .i64 k), .dv (.int .i64 c), .dv (.int .i64 a), .dv (.int .i64 w)]] [] fun r _ => r = .dv (.bool true) :=
  (run_call mixed TT_ok 1000 40 isTrue (by kernel_rfl)).mono fun _ _ h => isTrue_ok h

end Go.Proofs.YtibjefabebjfdaaGreat
