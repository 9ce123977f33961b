/-
  Walks: the pipe's methods.
-/
import Derived.Test.YtophlodlencgiaaPipeB
namespace Go.Proofs.Ytophlodlencgiaa
open Go.V

theorem ok_pipe_Held (s : PSt) : CallOK PR n_pipe_Pipe_Held [.ptr 0 0] [.obj (pob s)] fun r m => r = .dv (.int .i64 s.hand) ∧ m = [.obj (pob s)] := by
  refine fn_walk2 mixed fn_pipe_Pipe_Held Ent.opn1 fun A P hA hP Q hQ => ?_
  cbv
  subst hQ
  exact ⟨.dv (.int .i64 s.hand), _, Ent.cls1 [1] (pmem s) rfl rfl ⟨⟨rfl, ⟨rfl, rfl, fun _ _ _ _ => rfl⟩, rfl, rfl, rfl, rfl, trivial⟩, ⟨rfl, rfl, fun _ _ _ _ => rfl⟩, trivial⟩ ⟨rfl, trivial⟩, rfl, rfl⟩

theorem ok_pipe_Up (s : PSt) (i : Int) : CallOK PR n_pipe_Pipe_Up [.ptr 0 0, .dv (.int .i64 i)] [.obj (pob s)] fun r m => (∃ v, v = s.up i ∧ r = .dv (.bool v)) ∧ m = [.obj (pob s)] := by
  refine fn_walk2 mixed fn_pipe_Pipe_Up (Ent.refl _ _) fun A P hA hP Q hQ => ?_
  cbv
  refine call_aside hP (fun _ _ => Ent.refl _ _) [0] code_pipe_Pipe_at (ok_at s i) rfl ⟨rfl, trivial⟩ ⟨rfl, rfl, trivial⟩ ?_
  rintro r m ⟨rfl, ⟨h0, h1, rfl⟩ | ⟨h0, k, hk, rfl⟩⟩ _
  · refine ⟨_, fun _ => Ent.refl _ _, ?_⟩
    cbv
    refine bc_false (by subst hA; simp) ?_
    cbv
    subst hQ hA
    refine ⟨.dv (.bool false), _, Ent.weak1 (.same _), ⟨_, ?_, rfl⟩, rfl⟩
    simp [PSt.up, h0, h1]
  · refine ⟨_, fun _ => Ent.opn 0 rfl, ?_⟩
    cbv
    refine bc_true (by subst hA; simp) ?_
    cbv
    subst hQ hA
    refine ⟨.dv (.bool (!(s.e k).held)), _, Ent.cls1 [1] (pmem s) rfl rfl ⟨⟨rfl, ⟨rfl, rfl, fun _ _ _ _ => rfl⟩, rfl, rfl, rfl, rfl, trivial⟩, ⟨rfl, rfl, fun _ _ _ _ => rfl⟩, trivial⟩ ⟨rfl, trivial⟩, ⟨_, ?_, rfl⟩, rfl⟩
    simp [PSt.up, h0, hk]

theorem up_idx {s : PSt} {i : Int} (h : s.up i = true) : i = 0 ∨ i = 1 := by
  simp [PSt.up] at h
  exact h.1

theorem ok_pipe_Linked (s : PSt) (i : Int) : CallOK PR n_pipe_Pipe_Linked [.ptr 0 0, .dv (.int .i64 i)] [.obj (pob s)] fun r m => (∃ v, v = s.linked i ∧ r = .dv (.bool v)) ∧ m = [.obj (pob s)] := by
  refine fn_walk2 mixed fn_pipe_Pipe_Linked (Ent.refl _ _) fun A P hA hP Q hQ => ?_
  cbv
  refine call_aside hP (fun _ _ => Ent.refl _ _) [0] code_pipe_Pipe_Up (ok_pipe_Up s i) rfl ⟨rfl, trivial⟩ ⟨rfl, rfl, trivial⟩ ?_
  rintro r m ⟨⟨v, hv, rfl⟩, rfl⟩ _
  refine ⟨_, fun _ => Ent.opn 0 rfl, ?_⟩
  cbv
  refine bc_split (fun h1 => ?_) (fun h1 => ?_)
  · cbv
    have h0 := up_idx (hv ▸ h1)
    refine ⟨by subst hA; simp; omega, fun k hk hk2 => ?_⟩
    have hk3 : k = i.toNat := by subst hA; exact hk
    cbv
    subst hQ hA
    refine ⟨.dv (.bool (s.e k).linked), _, Ent.cls1 [1] (pmem s) rfl rfl ⟨⟨rfl, ⟨rfl, rfl, fun _ _ _ _ => rfl⟩, rfl, rfl, rfl, rfl, trivial⟩, ⟨rfl, rfl, fun _ _ _ _ => rfl⟩, trivial⟩ ⟨rfl, trivial⟩, ⟨_, ?_, rfl⟩, rfl⟩
    rw [PSt.linked, ← hv, h1, hk3]; rfl
  · cbv
    subst hQ hA
    refine ⟨.dv (.bool false), _, Ent.cls1 [1] (pmem s) rfl rfl ⟨⟨rfl, ⟨rfl, rfl, fun _ _ _ _ => rfl⟩, rfl, rfl, rfl, rfl, trivial⟩, ⟨rfl, rfl, fun _ _ _ _ => rfl⟩, trivial⟩ ⟨rfl, trivial⟩, ⟨_, ?_, rfl⟩, rfl⟩
    rw [PSt.linked, ← hv, h1]; rfl

theorem ok_pipe_Hold (s : PSt) (i : Int) : CallOK PR n_pipe_Pipe_Hold [.ptr 0 0, .dv (.int .i64 i)] [.obj (pob s)] fun r m => ∃ v s', (s', v) = s.hold i ∧ r = .dv (.int .i64 v) ∧ m = [.obj (pob s')] := by
  refine fn_walk2 mixed fn_pipe_Pipe_Hold (Ent.refl _ _) fun A P hA hP Q hQ => ?_
  cbv
  refine call_aside hP (fun _ _ => Ent.refl _ _) [0] code_pipe_Pipe_at (ok_at s i) rfl ⟨rfl, trivial⟩ ⟨rfl, rfl, trivial⟩ ?_
  rintro r m ⟨rfl, ⟨h0, h1, rfl⟩ | ⟨h0, k, hk, rfl⟩⟩ _
  · refine ⟨_, fun _ => Ent.refl _ _, ?_⟩
    cbv
    refine bc_true (by subst hA; simp) ?_
    cbv
    subst hQ hA
    exact ⟨.dv (.int .i64 2), _, Ent.weak1 (.same _), _, _, (by rw [PSt.hold, if_pos ⟨h0, h1⟩]), rfl, rfl⟩
  · refine ⟨_, fun _ => Ent.opn 0 rfl, ?_⟩
    cbv
    refine bc_false (by subst hA; simp) ?_
    cbv
    refine bc_split (fun h1 => ?_) (fun h1 => ?_)
    · cbv
      subst hQ hA
      refine ⟨.dv (.int .i64 11), _, Ent.cls1 [1] (pmem s) rfl rfl ⟨⟨rfl, ⟨rfl, rfl, fun _ _ _ _ => rfl⟩, rfl, rfl, rfl, rfl, trivial⟩, ⟨rfl, rfl, fun _ _ _ _ => rfl⟩, trivial⟩ ⟨rfl, trivial⟩, _, _, ?_, rfl, rfl⟩
      rw [PSt.hold, if_neg (by omega), if_pos (by rw [← hk]; exact h1)]
    · cbv
      refine bc_split (fun h2 => ?_) (fun h2 => ?_)
      · cbv
        subst hQ hA
        refine ⟨.dv (.int .i64 0), _, Ent.cls1 [1] (pmem { s with e := updE s.e k { s.e k with held := true, linked := false }, hand := 0 }) rfl rfl ⟨⟨rfl, ⟨rfl, rfl, fun i f hi hf => by
          by_cases hik : i = k
          · subst hik
            rcases (by omega : f = 0 ∨ f = 1 ∨ f = 2 ∨ f = 3 ∨ f = 4) with rfl | rfl | rfl | rfl | rfl <;> simp [updRow, updE, VLe, renV, lget, endF]
          · simp [updRow, updE, VLe, renV, hik]⟩, rfl, rfl, rfl, rfl, trivial⟩, ⟨rfl, rfl, fun _ _ _ _ => rfl⟩, trivial⟩ ⟨rfl, trivial⟩, _, _, ?_, rfl, rfl⟩
        rw [PSt.hold, if_neg (by omega), if_neg (by rw [← hk, h1]; simp), if_pos (by simpa using h2), hk]
      · cbv
        subst hQ hA
        refine ⟨.dv (.int .i64 0), _, Ent.cls1 [1] (pmem { s with e := updE s.e k { s.e k with held := true, linked := false }, hand := s.hand }) rfl rfl ⟨⟨rfl, ⟨rfl, rfl, fun i f hi hf => by
          by_cases hik : i = k
          · subst hik
            rcases (by omega : f = 0 ∨ f = 1 ∨ f = 2 ∨ f = 3 ∨ f = 4) with rfl | rfl | rfl | rfl | rfl <;> simp [updRow, updE, VLe, renV, lget, endF]
          · simp [updRow, updE, VLe, renV, hik]⟩, rfl, rfl, rfl, rfl, trivial⟩, ⟨rfl, rfl, fun _ _ _ _ => rfl⟩, trivial⟩ ⟨rfl, trivial⟩, _, _, ?_, rfl, rfl⟩
        rw [PSt.hold, if_neg (by omega), if_neg (by rw [← hk, h1]; simp), if_neg (by simpa using h2), hk]

theorem ok_pipe_Start (s : PSt) (i : Int) : CallOK PR n_pipe_Pipe_Start [.ptr 0 0, .dv (.int .i64 i)] [.obj (pob s)] fun r m => ∃ v s', (s', v) = s.start i ∧ r = .dv (.int .i64 v) ∧ m = [.obj (pob s')] := by
  refine fn_walk2 mixed fn_pipe_Pipe_Start (Ent.refl _ _) fun A P hA hP Q hQ => ?_
  cbv
  refine call_aside hP (fun _ _ => Ent.refl _ _) [0] code_pipe_Pipe_at (ok_at s i) rfl ⟨rfl, trivial⟩ ⟨rfl, rfl, trivial⟩ ?_
  rintro r m ⟨rfl, ⟨h0, h1, rfl⟩ | ⟨h0, k, hk, rfl⟩⟩ _
  · refine ⟨_, fun _ => Ent.refl _ _, ?_⟩
    cbv
    refine bc_true (by subst hA; simp) ?_
    cbv
    subst hQ hA
    exact ⟨.dv (.int .i64 2), _, Ent.weak1 (.same _), _, _, (by rw [PSt.start, if_pos ⟨h0, h1⟩]), rfl, rfl⟩
  · refine ⟨_, fun _ => Ent.opn 0 rfl, ?_⟩
    cbv
    refine bc_false (by subst hA; simp) ?_
    cbv
    refine bc_split (fun h1 => ?_) (fun h1 => ?_)
    · cbv
      subst hQ hA
      refine ⟨.dv (.int .i64 13), _, Ent.cls1 [1] (pmem s) rfl rfl ⟨⟨rfl, ⟨rfl, rfl, fun _ _ _ _ => rfl⟩, rfl, rfl, rfl, rfl, trivial⟩, ⟨rfl, rfl, fun _ _ _ _ => rfl⟩, trivial⟩ ⟨rfl, trivial⟩, _, _, ?_, rfl, rfl⟩
      rw [PSt.start, if_neg (by omega), if_pos (by rw [← hk]; simpa using h1)]
    · cbv
      refine call_pure hP code_wrap_Add (ok_wrap_Add (s.e k).epoch 1) (by cbv; all_goals simp) ?_
      rintro r ⟨v, hv, rfl⟩
      cbv
      subst hQ hA
      refine ⟨.dv (.int .i64 0), _, Ent.cls1 [1] (pmem { s with e := updE s.e k { held := false, linked := false, epoch := v, known := -1, mark := (s.e k).mark } }) rfl rfl ⟨⟨rfl, ⟨rfl, rfl, fun i f hi hf => by
          by_cases hik : i = k
          · subst hik
            rcases (by omega : f = 0 ∨ f = 1 ∨ f = 2 ∨ f = 3 ∨ f = 4) with rfl | rfl | rfl | rfl | rfl <;> simp [updRow, updE, VLe, renV, lget, endF]
          · simp [updRow, updE, VLe, renV, hik]⟩, rfl, rfl, rfl, rfl, trivial⟩, ⟨rfl, rfl, fun _ _ _ _ => rfl⟩, trivial⟩ ⟨rfl, trivial⟩, _, _, ?_, rfl, rfl⟩
      rw [PSt.start, if_neg (by omega), if_neg (by rw [← hk]; simpa using h1), ← hk, hv]
end Go.Proofs.Ytophlodlencgiaa
