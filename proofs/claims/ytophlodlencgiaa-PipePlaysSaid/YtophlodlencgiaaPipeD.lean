/-
  Walks: the pipe's methods, the rest.
-/
import Derived.Test.YtophlodlencgiaaPipeC
namespace Go.Proofs.Ytophlodlencgiaa
open Go.V

theorem ok_pipe_New (room : Int) : CallOK PR n_pipe_New [.dv (.int .i64 room)] [] fun r m =>
    ((room < 1 ∨ 64 < room) ∧ r = .dv .nilp ∧ m = []) ∨ (1 ≤ room ∧ room ≤ 64 ∧ r = .ptr 0 0 ∧ m = [.obj (pob (PSt.new room))]) := by
  refine fn_walk2 mixed fn_pipe_New (Ent.refl _ _) fun A P hA hP Q hQ => ?_
  cbv
  refine bc_split (fun h1 => ?_) (fun h1 => ?_)
  · cbv
    subst hQ hA
    exact ⟨.dv .nilp, [], Ent.weak1 (.same _), .inl ⟨.inl (by simpa using h1), rfl, rfl⟩⟩
  · cbv
    refine bc_split (fun h2 => ?_) (fun h2 => ?_)
    · cbv
      subst hQ hA
      exact ⟨.dv .nilp, [], Ent.weak1 (.same _), .inl ⟨.inr (by simpa using h2), rfl, rfl⟩⟩
    · cbv
      subst hQ hA
      simp at h1 h2
      refine ⟨.ptr 0 0, _, (Ent.nilvec 0 11 1 (fun i _ => .dv .nils) rfl rfl rfl).trans (Ent.cls1 [1] (pmem (PSt.new room)) rfl rfl (by exact ⟨⟨rfl, ⟨rfl, rfl, fun i f hi hf => by
        rcases (by omega : i = 0 ∨ i = 1) with rfl | rfl <;> rcases (by omega : f = 0 ∨ f = 1 ∨ f = 2 ∨ f = 3 ∨ f = 4) with rfl | rfl | rfl | rfl | rfl <;> rfl⟩, rfl, rfl, rfl, rfl, trivial⟩, ⟨rfl, rfl, fun _ _ _ _ => rfl⟩, trivial⟩) ⟨rfl, trivial⟩), .inr ⟨by omega, by omega, rfl, rfl⟩⟩

theorem ok_pipe_Release (s : PSt) (hs : s.Ok) (k : Int) : CallOK PR n_pipe_Pipe_Release [.ptr 0 0, .dv (.int .i64 k)] [.obj (pob s)] fun r m => ∃ v s', (s', v) = s.release k ∧ r = .dv (.int .i64 v) ∧ m = [.obj (pob s')] := by
  refine fn_walk2 mixed fn_pipe_Pipe_Release (Ent.refl _ _) fun A P hA hP Q hQ => ?_
  cbv
  refine call_aside hP (fun _ _ => Ent.refl _ _) [0] code_pipe_Pipe_ready (ok_ready s 1 (.inr rfl)) rfl ⟨rfl, trivial⟩ ⟨rfl, rfl, trivial⟩ ?_
  rintro r m ⟨⟨v, hv, rfl⟩, rfl⟩ _
  refine ⟨_, fun _ => Ent.opn 0 rfl, ?_⟩
  cbv
  have hv : v = (if (s.e 1).held then 19 else 0) := hv
  refine bc_split (fun h1 => ?_) (fun h1 => ?_)
  · cbv
    subst hQ hA
    refine ⟨.dv (.int .i64 v), _, Ent.cls1 [1] (pmem s) rfl rfl ⟨⟨rfl, ⟨rfl, rfl, fun _ _ _ _ => rfl⟩, rfl, rfl, rfl, rfl, trivial⟩, ⟨rfl, rfl, fun _ _ _ _ => rfl⟩, trivial⟩ ⟨rfl, trivial⟩, _, _, ?_, rfl, rfl⟩
    simp at h1
    rw [PSt.release]
    split at hv <;> simp_all
  · cbv
    have hh : (s.e 1).held = false := by
      subst hA
      simp at h1
      split at hv <;> simp_all
    refine bc_split (fun h2 => ?_) (fun h2 => ?_)
    · cbv
      subst hQ hA
      refine ⟨.dv (.int .i64 7), _, Ent.cls1 [1] (pmem s) rfl rfl ⟨⟨rfl, ⟨rfl, rfl, fun _ _ _ _ => rfl⟩, rfl, rfl, rfl, rfl, trivial⟩, ⟨rfl, rfl, fun _ _ _ _ => rfl⟩, trivial⟩ ⟨rfl, trivial⟩, _, _, ?_, rfl, rfl⟩
      rw [PSt.release, if_neg (by simp [hh]), if_pos (.inl (by simpa using h2))]
    · cbv
      refine bc_split (fun h3 => ?_) (fun h3 => ?_)
      · cbv
        subst hQ hA
        refine ⟨.dv (.int .i64 7), _, Ent.cls1 [1] (pmem s) rfl rfl ⟨⟨rfl, ⟨rfl, rfl, fun _ _ _ _ => rfl⟩, rfl, rfl, rfl, rfl, trivial⟩, ⟨rfl, rfl, fun _ _ _ _ => rfl⟩, trivial⟩ ⟨rfl, trivial⟩, _, _, ?_, rfl, rfl⟩
        rw [PSt.release, if_neg (by simp [hh]), if_pos (.inr (by simpa using h3))]
      · cbv
        have hb : ¬(k < 0 ∨ s.hand ≤ k) := by subst hA; simp at h2 h3; omega
        have e : A.bin .sub .i64 s.hand 1 = s.hand - 1 := by
          have := hs.hand
          subst hA; simp only [std_sub]; rw [w64_in (by omega)]
        refine call_aside hP (fun _ _ => Ent.cls 0 [1] (pmem { s with hand := s.hand - 1 }) rfl rfl ⟨⟨rfl, ⟨rfl, rfl, fun _ _ _ _ => rfl⟩, rfl, rfl, rfl, congrArg (fun z => SV.dv (DV.int .i64 z)) e, trivial⟩, ⟨rfl, rfl, fun _ _ _ _ => rfl⟩, trivial⟩) [0] code_pipe_Pipe_meet (ok_meet1 { s with hand := s.hand - 1 }) rfl ⟨rfl, trivial⟩ ⟨rfl, rfl, trivial⟩ ?_
        rintro r m ⟨v2, s2, hm, rfl, rfl⟩ _
        refine ⟨_, fun _ => Ent.opn 0 rfl, ?_⟩
        cbv
        refine bc_split (fun h4 => ?_) (fun h4 => ?_)
        · cbv
          subst hQ hA
          refine ⟨.dv (.int .i64 v2), _, Ent.cls1 [2] (pmem s2) rfl rfl ⟨⟨rfl, ⟨rfl, rfl, fun _ _ _ _ => rfl⟩, rfl, rfl, rfl, rfl, trivial⟩, ⟨rfl, rfl, fun _ _ _ _ => rfl⟩, trivial⟩ ⟨rfl, trivial⟩, _, _, ?_, rfl, rfl⟩
          rw [PSt.release, if_neg (by simp [hh]), if_neg hb]
          simp only [← hm]
          rw [if_pos (by simpa using h4)]
        · cbv
          have hs2 : 0 ≤ s2.back ∧ s2.back ≤ 1000000000 := by
            have := hs.back
            simp only [PSt.meet] at hm
            split at hm
            · simp at hm; obtain ⟨rfl, _⟩ := hm; simp
            · split at hm
              · cases hm; exact this
              · cases hm; exact this
          have e : A.bin .add .i64 s2.back 1 = s2.back + 1 := by
            subst hA; simp only [std_add]; rw [w64_in (by omega)]
          subst hQ hA
          refine ⟨.dv (.int .i64 0), _, Ent.cls1 [2] (pmem { s2 with back := s2.back + 1 }) rfl rfl ⟨⟨rfl, ⟨rfl, rfl, fun _ _ _ _ => rfl⟩, rfl, rfl, congrArg (fun z => SV.dv (DV.int .i64 z)) e, rfl, trivial⟩, ⟨rfl, rfl, fun _ _ _ _ => rfl⟩, trivial⟩ ⟨rfl, trivial⟩, _, _, ?_, rfl, rfl⟩
          rw [PSt.release, if_neg (by simp [hh]), if_neg hb]
          simp only [← hm]
          rw [if_neg (by simpa using h4)]

end Go.Proofs.Ytophlodlencgiaa
