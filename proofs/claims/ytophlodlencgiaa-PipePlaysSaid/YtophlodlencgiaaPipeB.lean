/-
  Walks: the pipe's inner methods.
-/
import Derived.Test.YtophlodlencgiaaPipeA
namespace Go.Proofs.Ytophlodlencgiaa
open Go.V

theorem ok_ready (s : PSt) (i : Int) (hi : i = 0 ∨ i = 1) : CallOK PR n_pipe_Pipe_ready [.ptr 0 0, .dv (.int .i64 i)] [.obj (pob s)] fun r m =>
    (∃ v, v = (if (s.e i.toNat).held then 19 else 0) ∧ r = .dv (.int .i64 v)) ∧ m = [.obj (pob s)] := by
  refine fn_walk2 mixed fn_pipe_Pipe_ready Ent.opn1 fun A P hA hP Q hQ => ?_
  cbv
  refine ⟨by subst hA; simp; omega, fun k hk hk2 => ?_⟩
  have hk3 : k = i.toNat := by subst hA; exact hk
  cbv
  refine bc_split (fun h1 => ?_) (fun h1 => ?_)
  · cbv
    subst hQ hA hk3
    exact ⟨.dv (.int .i64 19), _, Ent.cls1 [1] (pmem s) rfl rfl ⟨⟨rfl, ⟨rfl, rfl, fun _ _ _ _ => rfl⟩, rfl, rfl, rfl, rfl, trivial⟩, ⟨rfl, rfl, fun _ _ _ _ => rfl⟩, trivial⟩ ⟨rfl, trivial⟩, ⟨_, by rw [if_pos h1], rfl⟩, rfl⟩
  · cbv
    subst hQ hA hk3
    exact ⟨.dv (.int .i64 0), _, Ent.cls1 [1] (pmem s) rfl rfl ⟨⟨rfl, ⟨rfl, rfl, fun _ _ _ _ => rfl⟩, rfl, rfl, rfl, rfl, trivial⟩, ⟨rfl, rfl, fun _ _ _ _ => rfl⟩, trivial⟩ ⟨rfl, trivial⟩, ⟨_, by rw [if_neg (by simp [h1])], rfl⟩, rfl⟩

theorem ok_link (x : PEnd) : CallOK (O := Ob) PR n_pipe_end_link [.agg [.dv (.bool x.held), .dv (.bool x.linked), .dv (.int .i64 x.epoch), .dv (.int .i64 x.known), .dv (.int .i64 x.mark)]] [] fun r m =>
    (∃ v, v = x.link ∧ r = .dv (.int .i64 v)) ∧ m = [] := by
  refine CallOK.drop (fn_walk mixed fn_pipe_end_link fun A P hA hP Q hQ => ?_)
  cbv
  refine call_pure hP code_wrap_Add (ok_wrap_Add _ _) (by cbv; all_goals trivial) ?_
  rintro r ⟨v, hv, rfl⟩
  cbv
  subst hQ hA
  exact ⟨.dv (.int .i64 v), rfl, _, hv, rfl⟩

theorem ok_at (s : PSt) (i : Int) : CallOK PR n_pipe_Pipe_at [.ptr 0 0, .dv (.int .i64 i)] [.obj (pob s)] fun r m => m = [.obj (pob s)] ∧
    ((i ≠ 0 ∧ i ≠ 1 ∧ r = .tup [.dv .nilp, .dv (.int .i64 2)]) ∨ ((i = 0 ∨ i = 1) ∧ ∃ k, k = i.toNat ∧ r = .tup [.pat 0 1 k 2 5 0, .dv (.int .i64 0)])) := by
  refine fn_walk mixed fn_pipe_Pipe_at fun A P hA hP Q hQ => ?_
  cbv
  refine bc_split (fun h1 => ?_) (fun h1 => ?_)
  · cbv
    refine bc_split (fun h2 => ?_) (fun h2 => ?_)
    · cbv
      subst hQ hA
      simp at h1 h2
      exact ⟨rfl, .inl ⟨h1, h2, rfl⟩⟩
    · cbv
      have h3 : i = 1 := by subst hA; simpa using h2
      refine ⟨by subst hA h3; simp, fun k hk hk2 => ?_⟩
      cbv
      subst hQ hA
      exact ⟨rfl, .inr ⟨.inr h3, k, hk, rfl⟩⟩
  · cbv
    have h3 : i = 0 := by subst hA; simpa using h1
    refine ⟨by subst hA h3; simp, fun k hk hk2 => ?_⟩
    cbv
    subst hQ hA
    exact ⟨rfl, .inr ⟨.inl h3, k, hk, rfl⟩⟩

theorem ok_meet0 (s : PSt) : CallOK PR n_pipe_Pipe_meet [.ptr 0 0, .dv (.int .i64 0)] [.obj (pob s)] fun r m =>
    (∃ v s', (s', v) = s.meet 0 ∧ r = .dv (.int .i64 v) ∧ m = [.obj (pob s')]) := by
  refine fn_walk2 mixed fn_pipe_Pipe_meet Ent.opn1 fun A P hA hP Q hQ => ?_
  cbv
  refine ⟨by subst hA; simp, fun k hk hk2 => ?_⟩
  obtain rfl : k = 0 := by subst hA; simpa using hk
  clear hk hk2
  cbv
  refine ⟨by subst hA; simp [w64], fun l hl hl2 => ?_⟩
  obtain rfl : l = 1 := by subst hA; simpa [w64] using hl
  clear hl hl2
  cbv
  refine bc_split (fun h1 => ?_) (fun h1 => ?_)
  · cbv
    refine call_pure hP code_pipe_end_link (ok_link { s.e 0 with known := (s.e 1).epoch, linked := false }) (by cbv; all_goals simp) ?_
    rintro r ⟨v, hv, rfl⟩
    cbv
    refine bc_true (by subst hA; simp) ?_
    cbv
    subst hQ hA hv
    have hm : s.meet 0 = ({ s with e := updE s.e 0 { s.e 0 with known := (s.e 1).epoch, linked := false, mark := PEnd.link { s.e 0 with known := (s.e 1).epoch, linked := false } }, n := 0 }, 8) := by
      rw [PSt.meet, if_pos (by simpa using h1)]; rfl
    refine ⟨.dv (.int .i64 8), _, (Ent.nilvec 0 11 1 (fun i _ => .dv (s.put i)) rfl rfl rfl).trans (Ent.cls1 [3] (pmem { s with e := updE s.e 0 { s.e 0 with known := (s.e 1).epoch, linked := false, mark := PEnd.link { s.e 0 with known := (s.e 1).epoch, linked := false } }, n := 0 }) rfl rfl (by exact ⟨⟨rfl, ⟨rfl, rfl, fun i f hi hf => by
        rcases (by omega : i = 0 ∨ i = 1) with rfl | rfl <;> rcases (by omega : f = 0 ∨ f = 1 ∨ f = 2 ∨ f = 3 ∨ f = 4) with rfl | rfl | rfl | rfl | rfl <;> rfl⟩, rfl, rfl, rfl, rfl, trivial⟩, ⟨rfl, rfl, fun _ _ _ _ => rfl⟩, trivial⟩) ⟨rfl, trivial⟩), _, _, hm.symm, rfl, rfl⟩
  · cbv
    refine bc_split (fun h2 => ?_) (fun h2 => ?_)
    · cbv
      refine call_pure hP code_pipe_end_link (ok_link (s.e 0)) (by cbv; all_goals simp) ?_
      rintro r ⟨v, hv, rfl⟩
      cbv
      refine bc_split (fun h3 => ?_) (fun h3 => ?_)
      · cbv
        subst hQ hA hv
        have hm : s.meet 0 = (s, 9) := by
          rw [PSt.meet, if_neg (by simpa using h1), if_pos ⟨by simpa using h2, by simpa using h3⟩]
        exact ⟨.dv (.int .i64 9), _, Ent.cls1 [1] (pmem s) rfl rfl ⟨⟨rfl, ⟨rfl, rfl, fun _ _ _ _ => rfl⟩, rfl, rfl, rfl, rfl, trivial⟩, ⟨rfl, rfl, fun _ _ _ _ => rfl⟩, trivial⟩ ⟨rfl, trivial⟩, _, _, hm.symm, rfl, rfl⟩
      · cbv
        subst hQ hA hv
        have hm : s.meet 0 = ({ s with e := updE s.e 0 { s.e 0 with linked := true } }, 0) := by
          rw [PSt.meet, if_neg (by simpa using h1), if_neg (fun h => h.2 (by simpa using h3))]
        refine ⟨.dv (.int .i64 0), _, Ent.cls1 [1] (pmem { s with e := updE s.e 0 { s.e 0 with linked := true } }) rfl rfl ⟨⟨rfl, ⟨rfl, rfl, fun i f hi hf => by
          rcases (by omega : i = 0 ∨ i = 1) with rfl | rfl <;> rcases (by omega : f = 0 ∨ f = 1 ∨ f = 2 ∨ f = 3 ∨ f = 4) with rfl | rfl | rfl | rfl | rfl <;> rfl⟩, rfl, rfl, rfl, rfl, trivial⟩, ⟨rfl, rfl, fun _ _ _ _ => rfl⟩, trivial⟩ ⟨rfl, trivial⟩, _, _, hm.symm, rfl, rfl⟩
    · cbv
      subst hQ hA
      have hm : s.meet 0 = ({ s with e := updE s.e 0 { s.e 0 with linked := true } }, 0) := by
        rw [PSt.meet, if_neg (by simpa using h1), if_neg (fun h => by simp [h.1] at h2)]
      refine ⟨.dv (.int .i64 0), _, Ent.cls1 [1] (pmem { s with e := updE s.e 0 { s.e 0 with linked := true } }) rfl rfl ⟨⟨rfl, ⟨rfl, rfl, fun i f hi hf => by
        rcases (by omega : i = 0 ∨ i = 1) with rfl | rfl <;> rcases (by omega : f = 0 ∨ f = 1 ∨ f = 2 ∨ f = 3 ∨ f = 4) with rfl | rfl | rfl | rfl | rfl <;> rfl⟩, rfl, rfl, rfl, rfl, trivial⟩, ⟨rfl, rfl, fun _ _ _ _ => rfl⟩, trivial⟩ ⟨rfl, trivial⟩, _, _, hm.symm, rfl, rfl⟩

theorem ok_meet1 (s : PSt) : CallOK PR n_pipe_Pipe_meet [.ptr 0 0, .dv (.int .i64 1)] [.obj (pob s)] fun r m =>
    (∃ v s', (s', v) = s.meet 1 ∧ r = .dv (.int .i64 v) ∧ m = [.obj (pob s')]) := by
  refine fn_walk2 mixed fn_pipe_Pipe_meet Ent.opn1 fun A P hA hP Q hQ => ?_
  cbv
  refine ⟨by subst hA; simp, fun k hk hk2 => ?_⟩
  obtain rfl : k = 1 := by subst hA; simpa using hk
  clear hk hk2
  cbv
  refine ⟨by subst hA; simp [w64], fun l hl hl2 => ?_⟩
  obtain rfl : l = 0 := by subst hA; simpa [w64] using hl
  clear hl hl2
  cbv
  refine bc_split (fun h1 => ?_) (fun h1 => ?_)
  · cbv
    refine call_pure hP code_pipe_end_link (ok_link { s.e 1 with known := (s.e 0).epoch, linked := false }) (by cbv; all_goals simp) ?_
    rintro r ⟨v, hv, rfl⟩
    cbv
    refine bc_false (by subst hA; simp) ?_
    cbv
    subst hQ hA hv
    have hm : s.meet 1 = ({ s with e := updE s.e 1 { s.e 1 with known := (s.e 0).epoch, linked := false, mark := PEnd.link { s.e 1 with known := (s.e 0).epoch, linked := false } }, got := 0, back := 0, hand := 0 }, 8) := by
      rw [PSt.meet, if_pos (by simpa using h1)]; rfl
    refine ⟨.dv (.int .i64 8), _, Ent.cls1 [1] (pmem { s with e := updE s.e 1 { s.e 1 with known := (s.e 0).epoch, linked := false, mark := PEnd.link { s.e 1 with known := (s.e 0).epoch, linked := false } }, got := 0, back := 0, hand := 0 }) rfl rfl ⟨⟨rfl, ⟨rfl, rfl, fun i f hi hf => by
        rcases (by omega : i = 0 ∨ i = 1) with rfl | rfl <;> rcases (by omega : f = 0 ∨ f = 1 ∨ f = 2 ∨ f = 3 ∨ f = 4) with rfl | rfl | rfl | rfl | rfl <;> rfl⟩, rfl, rfl, rfl, rfl, trivial⟩, ⟨rfl, rfl, fun _ _ _ _ => rfl⟩, trivial⟩ ⟨rfl, trivial⟩, _, _, hm.symm, rfl, rfl⟩
  · cbv
    refine bc_split (fun h2 => ?_) (fun h2 => ?_)
    · cbv
      refine call_pure hP code_pipe_end_link (ok_link (s.e 1)) (by cbv; all_goals simp) ?_
      rintro r ⟨v, hv, rfl⟩
      cbv
      refine bc_split (fun h3 => ?_) (fun h3 => ?_)
      · cbv
        subst hQ hA hv
        have hm : s.meet 1 = (s, 9) := by
          rw [PSt.meet, if_neg (by simpa using h1), if_pos ⟨by simpa using h2, by simpa using h3⟩]
        exact ⟨.dv (.int .i64 9), _, Ent.cls1 [1] (pmem s) rfl rfl ⟨⟨rfl, ⟨rfl, rfl, fun _ _ _ _ => rfl⟩, rfl, rfl, rfl, rfl, trivial⟩, ⟨rfl, rfl, fun _ _ _ _ => rfl⟩, trivial⟩ ⟨rfl, trivial⟩, _, _, hm.symm, rfl, rfl⟩
      · cbv
        subst hQ hA hv
        have hm : s.meet 1 = ({ s with e := updE s.e 1 { s.e 1 with linked := true } }, 0) := by
          rw [PSt.meet, if_neg (by simpa using h1), if_neg (fun h => h.2 (by simpa using h3))]
        refine ⟨.dv (.int .i64 0), _, Ent.cls1 [1] (pmem { s with e := updE s.e 1 { s.e 1 with linked := true } }) rfl rfl ⟨⟨rfl, ⟨rfl, rfl, fun i f hi hf => by
          rcases (by omega : i = 0 ∨ i = 1) with rfl | rfl <;> rcases (by omega : f = 0 ∨ f = 1 ∨ f = 2 ∨ f = 3 ∨ f = 4) with rfl | rfl | rfl | rfl | rfl <;> rfl⟩, rfl, rfl, rfl, rfl, trivial⟩, ⟨rfl, rfl, fun _ _ _ _ => rfl⟩, trivial⟩ ⟨rfl, trivial⟩, _, _, hm.symm, rfl, rfl⟩
    · cbv
      subst hQ hA
      have hm : s.meet 1 = ({ s with e := updE s.e 1 { s.e 1 with linked := true } }, 0) := by
        rw [PSt.meet, if_neg (by simpa using h1), if_neg (fun h => by simp [h.1] at h2)]
      refine ⟨.dv (.int .i64 0), _, Ent.cls1 [1] (pmem { s with e := updE s.e 1 { s.e 1 with linked := true } }) rfl rfl ⟨⟨rfl, ⟨rfl, rfl, fun i f hi hf => by
        rcases (by omega : i = 0 ∨ i = 1) with rfl | rfl <;> rcases (by omega : f = 0 ∨ f = 1 ∨ f = 2 ∨ f = 3 ∨ f = 4) with rfl | rfl | rfl | rfl | rfl <;> rfl⟩, rfl, rfl, rfl, rfl, trivial⟩, ⟨rfl, rfl, fun _ _ _ _ => rfl⟩, trivial⟩ ⟨rfl, trivial⟩, _, _, hm.symm, rfl, rfl⟩


end Go.Proofs.Ytophlodlencgiaa
