/-
  Walks: the pipe sends.
-/
import Derived.Test.YtophlodlencgiaaPipeE
namespace Go.Proofs.Ytophlodlencgiaa
open Go.V

theorem ok_pipe_Send (s : PSt) (hs : s.Ok) (n : Nat) (g : Nat → Nat → DV) (x : Nat → Int) (hg : ∀ i, i < n → g i 0 = .int .i64 (x i)) : CallOK PR n_pipe_Pipe_Send [.ptr 0 0, .dv (.seq n 1 g)] [.obj (pob s)] fun r m =>
    ∃ v s', s.send (.seq n 1 g) n x = (s', v) ∧ r = .dv (.int .i64 v) ∧ m = [.obj (pob s')] := by
  refine fn_walk2 mixed fn_pipe_Pipe_Send (Ent.refl _ _) fun A P hA hP Q hQ => ?_
  cbv
  refine call_aside hP (fun _ _ => Ent.refl _ _) [0] code_pipe_Pipe_ready (ok_ready s 0 (.inl rfl)) rfl ⟨rfl, trivial⟩ ⟨rfl, rfl, trivial⟩ ?_
  rintro r m ⟨⟨v, hv, rfl⟩, rfl⟩ _
  refine ⟨_, fun _ => Ent.refl _ _, ?_⟩
  cbv
  have hv : v = (if (s.e 0).held then 19 else 0) := hv
  refine bc_split (fun h1 => ?_) (fun h1 => ?_)
  · cbv
    subst hQ hA
    refine ⟨.dv (.int .i64 v), _, Ent.weak1 (.same _), v, s, ?_, rfl, rfl⟩
    simp at h1
    rw [PSt.send]
    split at hv <;> simp_all
  · cbv
    have hh : (s.e 0).held = false := by
      subst hA
      simp at h1
      split at hv <;> simp_all
    intro hn
    cbv
    refine bc_split (fun h2 => ?_) (fun h2 => ?_)
    · cbv
      subst hQ hA
      refine ⟨.dv (.int .i64 18), _, Ent.weak1 (.same _), 18, s, ?_, rfl, rfl⟩
      rw [PSt.send, if_neg (by simp [hh]), if_pos (by simp at h2; omega)]
    · cbv
      have hn8 : n ≤ 8 := by subst hA; simp at h2; omega
      refine call_pure hP code_slices_ContainsFunc_Sint_int (ok_ContainsFunc_ints n g x hg _ code_pipe_Pipe_Send_c1 _ ok_Send_c1) (by cbv; all_goals trivial) ?_
      rintro r ⟨b, hb, rfl⟩
      have hw : b = !wordsOk n x := by
        rw [Bool.eq_iff_iff, hb, Bool.not_eq_true', wordsOk, List.all_eq_false]
        simp
      cbv
      refine bc_split (fun h3 => ?_) (fun h3 => ?_)
      · cbv
        subst hQ hA
        refine ⟨.dv (.int .i64 2), _, Ent.weak1 (.same _), 2, s, ?_, rfl, rfl⟩
        rw [PSt.send, if_neg (by simp [hh]), if_neg (by omega), if_pos (by rw [h3] at hw; simpa using hw)]
      · cbv
        have hw2 : ¬ wordsOk n x = false := by rw [h3] at hw; simp at hw; simp [hw]
        refine call_aside hP (fun _ _ => Ent.refl _ _) [0] code_pipe_Pipe_meet (ok_meet0 s) rfl ⟨rfl, trivial⟩ ⟨rfl, rfl, trivial⟩ ?_
        rintro r m ⟨v2, s2, hm, rfl, rfl⟩ _
        have hs2 : s2.Ok := by have := hs.meet 0; rw [← hm] at this; exact this
        obtain ⟨room, e, np, put, got, back, hand⟩ := s2
        refine ⟨_, fun _ => Ent.opn 0 rfl, ?_⟩
        cbv
        refine bc_split (fun h4 => ?_) (fun h4 => ?_)
        · cbv
          subst hQ hA
          refine ⟨.dv (.int .i64 v2), _, Ent.cls1 [1] (pmem ⟨room, e, np, put, got, back, hand⟩) rfl rfl ⟨⟨rfl, ⟨rfl, rfl, fun _ _ _ _ => rfl⟩, rfl, rfl, rfl, rfl, trivial⟩, ⟨rfl, rfl, fun _ _ _ _ => rfl⟩, trivial⟩ ⟨rfl, trivial⟩, v2, ⟨room, e, np, put, got, back, hand⟩, ?_, rfl, rfl⟩
          rw [PSt.send, if_neg (by simp [hh]), if_neg (by omega), if_neg hw2]
          simp only [← hm]
          rw [if_pos (by simpa using h4)]
        · cbv
          intro hnp
          cbv
          have hb0 := hs2.back
          have hn0 := hs2.n
          simp only at hb0 hn0
          refine bc_split (fun h5 => ?_) (fun h5 => ?_)
          · cbv
            have h6 : room ≤ np - back := by subst hA; simp at h5; rw [w64_in (by omega)] at h5; exact h5
            subst hQ hA
            refine ⟨.dv (.int .i64 5), _, Ent.cls1 [1] (pmem ⟨room, e, np, put, got, back, hand⟩) rfl rfl ⟨⟨rfl, ⟨rfl, rfl, fun _ _ _ _ => rfl⟩, rfl, rfl, rfl, rfl, trivial⟩, ⟨rfl, rfl, fun _ _ _ _ => rfl⟩, trivial⟩ ⟨rfl, trivial⟩, 5, ⟨room, e, np, put, got, back, hand⟩, ?_, rfl, rfl⟩
            rw [PSt.send, if_neg (by simp [hh]), if_neg (by omega), if_neg hw2]
            simp only [← hm]
            rw [if_neg (by simpa using h4), if_pos h6]
          · cbv
            have h6 : ¬ room ≤ np - back := by subst hA; simp at h5; rw [w64_in (by omega)] at h5; omega
            refine call_pure hP code_slices_Clone_Sint_int (ok_Clone_ints n g (by omega)) (by cbv; all_goals simp) ?_
            rintro r rfl
            cbv
            refine ⟨by subst hA; simp [maxN]; omega, ?_⟩
            cbv
            subst hQ hA
            refine ⟨.dv (.int .i64 0), _, Ent.cls1 [3] (pmem ⟨room, e, np + 1, fun i => if i < np then put i else .seq n 1 g, got, back, hand⟩) rfl rfl ⟨⟨rfl, ⟨rfl, rfl, fun _ _ _ _ => rfl⟩, rfl, rfl, rfl, rfl, trivial⟩, ⟨rfl, rfl, fun i f hi hf => ?_⟩, trivial⟩ ⟨rfl, trivial⟩, 0, _, ?_, rfl, rfl⟩
            · have hi : i < np + 1 := hi
              obtain rfl : f = 0 := by omega
              show VLe [0, 3] (if i < np then SV.dv (put i) else listAt 1 [SV.dv (.seq n 1 g)] (i - np) 0) (SV.dv (if i < np then put i else .seq n 1 g))
              by_cases hin : i < np
              · rw [if_pos hin, if_pos hin]; rfl
              · obtain rfl : i = np := by omega
                rw [if_neg hin, if_neg hin, Nat.sub_self]; rfl
            · rw [PSt.send, if_neg (by simp [hh]), if_neg (by omega), if_neg hw2]
              simp only [← hm]
              rw [if_neg (by simpa using h4), if_neg h6]
end Go.Proofs.Ytophlodlencgiaa
