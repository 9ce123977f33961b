/-
  Walks: how many wait in a pipe.
-/
import Derived.Test.YtophlodlencgiaaPipeF
namespace Go.Proofs.Ytophlodlencgiaa
open Go.V

theorem ok_pipe_Waits (s : PSt) (hs : s.Ok) : CallOK PR n_pipe_Pipe_Waits [.ptr 0 0] [.obj (pob s)] fun r m => (∃ v, v = s.waits ∧ r = .dv (.int .i64 v)) ∧ m = [.obj (pob s)] := by
  refine fn_walk2 mixed fn_pipe_Pipe_Waits (Ent.refl _ _) fun A P hA hP Q hQ => ?_
  cbv
  refine call_aside hP (fun _ _ => Ent.refl _ _) [0] code_pipe_Pipe_Linked (ok_pipe_Linked s 0) rfl ⟨rfl, trivial⟩ ⟨rfl, rfl, trivial⟩ ?_
  rintro r m ⟨⟨a, ha, rfl⟩, rfl⟩ _
  refine ⟨_, fun _ => Ent.refl _ _, ?_⟩
  cbv
  refine bc_split (fun h1 => ?_) (fun h1 => ?_)
  · cbv
    have h1' : s.linked 0 = false := by subst hA; rw [← ha]; simpa using h1
    subst hQ hA
    exact ⟨.dv (.int .i64 0), _, Ent.weak1 (.same _), ⟨_, by rw [PSt.waits, if_neg (by simp [h1'])], rfl⟩, rfl⟩
  · cbv
    have h1' : s.linked 0 = true := by subst hA; rw [← ha]; simpa using h1
    refine call_aside hP (fun _ _ => Ent.refl _ _) [0] code_pipe_Pipe_Linked (ok_pipe_Linked s 1) rfl ⟨rfl, trivial⟩ ⟨rfl, rfl, trivial⟩ ?_
    rintro r m ⟨⟨b, hb, rfl⟩, rfl⟩ _
    refine ⟨_, fun _ => Ent.opn 0 rfl, ?_⟩
    cbv
    refine bc_split (fun h2 => ?_) (fun h2 => ?_)
    · cbv
      have h2' : s.linked 1 = false := by subst hA; rw [← hb]; simpa using h2
      subst hQ hA
      exact ⟨.dv (.int .i64 0), _, Ent.cls1 [1] (pmem s) rfl rfl ⟨⟨rfl, ⟨rfl, rfl, fun _ _ _ _ => rfl⟩, rfl, rfl, rfl, rfl, trivial⟩, ⟨rfl, rfl, fun _ _ _ _ => rfl⟩, trivial⟩ ⟨rfl, trivial⟩, ⟨_, by rw [PSt.waits, if_neg (by simp [h2'])], rfl⟩, rfl⟩
    · cbv
      have h2' : s.linked 1 = true := by subst hA; rw [← hb]; simpa using h2
      refine ⟨by subst hA; simp, fun k hk hk2 => ?_⟩
      obtain rfl : k = 0 := by subst hA; simpa using hk
      clear hk hk2
      cbv
      refine ⟨by subst hA; simp, fun k hk hk2 => ?_⟩
      obtain rfl : k = 1 := by subst hA; simpa using hk
      clear hk hk2
      cbv
      refine call_pure hP code_pipe_end_link (ok_link (s.e 0)) (by cbv; all_goals simp) ?_
      rintro r ⟨x, hx, rfl⟩
      cbv
      refine call_pure hP code_pipe_end_link (ok_link (s.e 1)) (by cbv; all_goals simp) ?_
      rintro r ⟨y, hy, rfl⟩
      cbv
      refine bc_split (fun h3 => ?_) (fun h3 => ?_)
      · cbv
        have h3' : ¬ (s.e 0).link = (s.e 1).link := by subst hA; rw [← hx, ← hy]; simpa using h3
        subst hQ hA
        exact ⟨.dv (.int .i64 0), _, Ent.cls1 [1] (pmem s) rfl rfl ⟨⟨rfl, ⟨rfl, rfl, fun _ _ _ _ => rfl⟩, rfl, rfl, rfl, rfl, trivial⟩, ⟨rfl, rfl, fun _ _ _ _ => rfl⟩, trivial⟩ ⟨rfl, trivial⟩, ⟨_, by rw [PSt.waits, if_neg (by simp [h3'])], rfl⟩, rfl⟩
      · cbv
        intro hn
        cbv
        have h3' : (s.e 0).link = (s.e 1).link := by subst hA; rw [← hx, ← hy]; simpa using h3
        have e1 : A.bin .sub .i64 (A.ofN s.n) s.got = s.waits := by
          have hn := hs.n
          have hg := hs.got
          rw [PSt.waits, if_pos ⟨h1', h2', h3'⟩]
          subst hA; simp only [std_sub, std_ofN]; rw [w64_in (by omega)]
        subst hQ hA
        exact ⟨.dv (.int .i64 s.waits), _, Ent.cls1 [1] (pmem s) rfl rfl ⟨⟨rfl, ⟨rfl, rfl, fun _ _ _ _ => rfl⟩, rfl, rfl, rfl, rfl, trivial⟩, ⟨rfl, rfl, fun _ _ _ _ => rfl⟩, trivial⟩ ⟨congrArg (fun z => SV.dv (DV.int .i64 z)) e1, trivial⟩, ⟨_, rfl, rfl⟩, rfl⟩

end Go.Proofs.Ytophlodlencgiaa
