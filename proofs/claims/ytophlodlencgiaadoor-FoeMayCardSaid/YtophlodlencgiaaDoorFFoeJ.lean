/-
  Walks: the document's answers on a foe's events and on the channels of others.
-/
import Derived.Test.YtophlodlencgiaaDoorFFoeI
namespace Go.Proofs.YtophlodlencgiaaDoor
open Go.V

theorem rings_iff {c a : Int} (hc : 2 ≤ c ∧ c ≤ 8) : ringsI c a = true ↔ ∃ k : Nat, k < c.toNat ∧ a = 65536 + 16 * (k : Int) + 2 := by
  rw [ringsI, decide_eq_true_eq]
  constructor
  · rintro ⟨h1, h2, h3, h4⟩
    exact ⟨((a - 65536) / 16).toNat, by omega, by omega⟩
  · rintro ⟨k, h1, h2⟩
    omega

theorem okR_Honest (c r b core f t : Int) : CallOK (O := Ob) PR n_ref23_Honest [.agg [.dv (.int .i64 c), .dv (.int .i64 r), .dv (.int .i64 b)], .dv (.int .i64 core), .dv (.int .i64 f), .dv (.int .i64 t)] [] fun x m => (∃ v, v = honestI c r b core f t ∧ x = .dv (.bool v)) ∧ m = [] := by
  refine CallOK.drop (fn_walk mixed fn_ref23_Honest fun A P hA hP Q hQ => ?_)
  have e : honestI c r b core f t = (hasI c r b core && hasI c r b f && hasI c r b t && decide (f ≠ t) && decide (f ≠ core) && decide (t ≠ core)) := by
    rw [honestI, ofI, hasI, hasI, hasI]
    cases rightC c r b
    · simp
    · rw [Bool.eq_iff_iff]
      simp only [Bool.true_and, Bool.and_eq_true, decide_eq_true_eq]
      omega
  rw [e] at hQ
  cbv
  refine call_pure hP code_ref23_has (okR_has c r b core) (by cbv; all_goals simp) ?_
  rintro _ ⟨h1, e1, rfl⟩
  cbv
  refine bc_split (fun g1 => ?_) (fun g1 => ?_)
  · cbv
    refine call_pure hP code_ref23_has (okR_has c r b f) (by cbv; all_goals simp) ?_
    rintro _ ⟨h2, e2, rfl⟩
    cbv
    refine bc_split (fun g2 => ?_) (fun g2 => ?_)
    · cbv
      refine call_pure hP code_ref23_has (okR_has c r b t) (by cbv; all_goals simp) ?_
      rintro _ ⟨h3, e3, rfl⟩
      cbv
      refine bc_split (fun g3 => ?_) (fun g3 => ?_)
      · cbv
        refine bc_split (fun g4 => ?_) (fun g4 => ?_)
        · cbv
          refine bc_split (fun g5 => ?_) (fun g5 => ?_)
          · cbv
            subst hQ hA
            exact ⟨.dv (.bool (std.cmp .neq t core)), rfl, _, by rw [← e1, ← e2, ← e3, g1, g2, g3]; simp at g4 g5; simp [g4, g5], rfl⟩
          · cbv
            subst hQ hA
            exact ⟨.dv (.bool false), rfl, _, by simp at g5; simp [g5], rfl⟩
        · cbv
          subst hQ hA
          exact ⟨.dv (.bool false), rfl, _, by simp at g4; simp [g4], rfl⟩
      · cbv
        subst hQ hA
        exact ⟨.dv (.bool false), rfl, _, by rw [← e3, g3]; simp, rfl⟩
    · cbv
      subst hQ hA
      exact ⟨.dv (.bool false), rfl, _, by rw [← e2, g2]; simp, rfl⟩
  · cbv
    subst hQ hA
    exact ⟨.dv (.bool false), rfl, _, by rw [← e1, g1]; simp, rfl⟩

set_option maxHeartbeats 4000000 in
theorem okR_Allowed (c r b core kd co pe ha at_ wd : Int) (n : Nat) (g : Nat → Nat → DV) :
    CallOK (O := Ob) PR n_ref23_Allowed [.agg [.dv (.int .i64 c), .dv (.int .i64 r), .dv (.int .i64 b)], .dv (.int .i64 core), .agg [.dv (.int .i64 kd), .dv (.int .i64 co), .dv (.int .i64 pe), .dv (.int .i64 ha), .dv (.seq n 1 g), .dv (.int .i64 at_), .dv (.int .i64 wd)]] [] fun x m =>
      (∃ v, v = allowI c r b core kd co at_ ∧ x = .dv (.bool v)) ∧ m = [] := by
  refine CallOK.drop (fn_walk mixed fn_ref23_Allowed fun A P hA hP Q hQ => ?_)
  cbv
  refine call_pure hP code_ref23_has (okR_has c r b core) (by cbv; all_goals simp) ?_
  rintro _ ⟨h, hh, rfl⟩
  cbv
  have ea : ∀ v, v = (h && decide (kd ≠ 6 ∧ kd ≠ 7) && (decide (kd ≠ 8) || (decide (co = core) && (mineI c r b core at_ || ringsI c at_)))) → v = allowI c r b core kd co at_ := by
    intro v hv; rw [hv, allowI, ← hh]
  have eQ : ∀ (v : Bool) (m : List (Chunk Ob)), v = allowI c r b core kd co at_ → Q (.dv (.bool v)) m := by
    intro v m hv; subst hQ; exact ⟨.dv (.bool v), rfl, v, hv, rfl⟩
  clear hQ
  refine bc_split (fun h1 => ?_) (fun h1 => ?_)
  · have f1 : h = false := by subst hA; simpa [std] using h1
    cbv
    exact eQ false _ (ea _ (by simp [f1]))
  have f1 : h = true := by subst hA; simpa [std] using h1
  cbv
  refine bc_split (fun h2 => ?_) (fun h2 => ?_)
  · have f2 : kd = 6 := by subst hA; simpa using h2
    cbv
    exact eQ false _ (ea _ (by simp [f2]))
  have f2 : kd ≠ 6 := by subst hA; simpa using h2
  cbv
  refine bc_split (fun h3 => ?_) (fun h3 => ?_)
  · have f3 : kd = 7 := by subst hA; simpa using h3
    cbv
    exact eQ false _ (ea _ (by simp [f3]))
  have f3 : kd ≠ 7 := by subst hA; simpa using h3
  cbv
  refine bc_split (fun h4 => ?_) (fun h4 => ?_)
  · have f4 : kd ≠ 8 := by subst hA; simpa using h4
    cbv
    exact eQ true _ (ea _ (by simp [f1, f2, f3, f4]))
  have f4 : kd = 8 := by subst hA; simpa using h4
  cbv
  refine bc_split (fun h5 => ?_) (fun h5 => ?_)
  · have f5 : co ≠ core := by subst hA; simpa using h5
    cbv
    exact eQ false _ (ea _ (by simp [f4, f5]))
  have f5 : co = core := by subst hA; simpa using h5
  have hI : hasI c r b core = true := by rw [← hh, f1]
  have hr : rightC c r b = true := by simp only [hasI, Bool.and_eq_true] at hI; exact hI.1
  obtain ⟨v1, v2, _⟩ := right_vals hr
  have ec : ∀ v, v = (mineI c r b core at_ || ringsI c at_) → v = allowI c r b core kd co at_ := by
    intro v hv; refine ea _ ?_; rw [hv]; simp [f1, f4, f5]
  clear ea h1 h2 h3 h4 h5
  cbv
  refine loop_at mixed hP hA (fun i : { k : Nat // k ≤ c.toNat ∧ ∀ j : Nat, j < k → ¬ at_ = 65536 + 16 * (j : Int) + 2 } => ⟨envOf 47 [(0, .agg [.dv (.int .i64 c), .dv (.int .i64 r), .dv (.int .i64 b)]), (1, .dv (.int .i64 core)), (3, .ptr 0 0), (5, .ptr 1 0), (7, .dv (.int .i64 (A.ofN i.1)))], [.blk [.one (.dv (.int .i64 c)), .one (.dv (.int .i64 r)), .one (.dv (.int .i64 b))], .blk [.one (.dv (.int .i64 kd)), .one (.dv (.int .i64 co)), .one (.dv (.int .i64 pe)), .one (.dv (.int .i64 ha)), .one (.dv (.seq n 1 g)), .one (.dv (.int .i64 at_)), .one (.dv (.int .i64 wd))]]⟩) (fun i => c.toNat - i.1) ⟨0, Nat.zero_le _, fun j hj => absurd hj (Nat.not_lt_zero j)⟩ (Ent.env (by cbv; subst hA; simp)) ?_
  rintro ⟨k, hk, hno⟩
  have hk : k ≤ c.toNat := hk
  cbv
  refine bc_split (fun h6 => ?_) (fun h6 => ?_)
  · have f6 : k < c.toNat := by subst hA; simp at h6; omega
    have q7 : A.bin .add .i64 (A.ofN k) 1 = A.ofN (k + 1) := by subst hA; simp; rw [w64_in (by omega)]
    have q8 : A.bin .add .i64 (A.bin .add .i64 65536 (A.bin .mul .i64 16 (A.ofN k))) 2 = 65536 + 16 * (k : Int) + 2 := by
      subst hA; simp only [std_add, std_mul, std_ofN]; rw [w64_in (n := 16 * (k : Int)) (by omega), w64_in (n := 65536 + _) (by omega), w64_in (by omega)]
    have hyes : at_ = 65536 + 16 * (k : Int) + 2 → true = allowI c r b core kd co at_ := fun h => ec _ (by rw [(rings_iff v1).2 ⟨k, f6, h⟩]; simp)
    have hnext : ¬ at_ = 65536 + 16 * (k : Int) + 2 → ∀ j : Nat, j < k + 1 → ¬ at_ = 65536 + 16 * (j : Int) + 2 := fun h => below_succ hno h
    obtain ⟨z, hz⟩ : ∃ z, z = 65536 + 16 * (k : Int) + 2 := ⟨_, rfl⟩
    rw [← hz] at q8 hyes hnext
    cbv
    refine bc_split (fun h7 => ?_) (fun h7 => ?_)
    · have f7 : at_ = z := by
        have h7 : A.cmp .eql at_ (A.bin .add .i64 (A.bin .add .i64 65536 (A.bin .mul .i64 16 (A.ofN k))) 2) = true := h7
        rw [q8] at h7; subst hA; simpa using h7
      cbv
      exact eQ true _ (hyes f7)
    · have f7 : ¬ at_ = z := by
        have h7 : A.cmp .eql at_ (A.bin .add .i64 (A.bin .add .i64 65536 (A.bin .mul .i64 16 (A.ofN k))) 2) = false := h7
        rw [q8] at h7; subst hA; simpa using h7
      cbv
      refine ⟨⟨k + 1, f6, hnext f7⟩, by simp only; omega, ?_⟩
      show Ent _ _ (⟨envOf 47 [(0, .agg [.dv (.int .i64 c), .dv (.int .i64 r), .dv (.int .i64 b)]), (1, .dv (.int .i64 core)), (3, .ptr 0 0), (5, .ptr 1 0), (7, .dv (.int .i64 (A.ofN (k + 1))))], [.blk [.one (.dv (.int .i64 c)), .one (.dv (.int .i64 r)), .one (.dv (.int .i64 b))], .blk [.one (.dv (.int .i64 kd)), .one (.dv (.int .i64 co)), .one (.dv (.int .i64 pe)), .one (.dv (.int .i64 ha)), .one (.dv (.seq n 1 g)), .one (.dv (.int .i64 at_)), .one (.dv (.int .i64 wd))]]⟩ : St Ob)
      rw [← q7]
      exact Ent.env (by cbv; all_goals trivial)
  · have f6 : k = c.toNat := by subst hA; simp at h6; omega
    have hfin : ringsI c at_ = false := by
      rw [← Bool.not_eq_true, rings_iff v1]
      rintro ⟨j, hj, hx⟩
      exact hno j (by omega) hx
    rw [hfin] at ec
    cbv
    refine call_pure hP code_ref23_Mine (okR_Mine c r b core at_) (by cbv; all_goals simp) ?_
    rintro _ ⟨v, hv, rfl⟩
    cbv
    exact eQ v _ (ec v (by rw [hv]; simp))

end Go.Proofs.YtophlodlencgiaaDoor
