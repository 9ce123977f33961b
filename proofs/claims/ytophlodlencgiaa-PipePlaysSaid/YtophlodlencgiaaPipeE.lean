/-
  Walks: the pipe receives and sends.
-/
import Derived.Test.YtophlodlencgiaaPipeD
namespace Go.Proofs.Ytophlodlencgiaa
open Go.V

theorem ok_pipe_Recv (s : PSt) (hs : s.Ok) : CallOK PR n_pipe_Pipe_Recv [.ptr 0 0] [.obj (pob s)] fun r m =>
    ∃ d v s', s.recv = (s', d, v) ∧ r = .tup [.dv (d.getD .nils), .dv (.int .i64 v)] ∧ m = [.obj (pob s')] := by
  refine fn_walk2 mixed fn_pipe_Pipe_Recv (Ent.refl _ _) fun A P hA hP Q hQ => ?_
  cbv
  refine call_aside hP (fun _ _ => Ent.refl _ _) [0] code_pipe_Pipe_ready (ok_ready s 1 (.inr rfl)) rfl ⟨rfl, trivial⟩ ⟨rfl, rfl, trivial⟩ ?_
  rintro r m ⟨⟨v, hv, rfl⟩, rfl⟩ _
  refine ⟨_, fun _ => Ent.refl _ _, ?_⟩
  cbv
  have hv : v = (if (s.e 1).held then 19 else 0) := hv
  refine bc_split (fun h1 => ?_) (fun h1 => ?_)
  · cbv
    subst hQ hA
    refine ⟨.tup [.dv .nils, .dv (.int .i64 v)], _, Ent.weak1 (.same _), none, v, s, ?_, rfl, rfl⟩
    simp at h1
    rw [PSt.recv]
    split at hv <;> simp_all
  · cbv
    have hh : (s.e 1).held = false := by
      subst hA
      simp at h1
      split at hv <;> simp_all
    refine call_aside hP (fun _ _ => Ent.refl _ _) [0] code_pipe_Pipe_meet (ok_meet1 s) rfl ⟨rfl, trivial⟩ ⟨rfl, rfl, trivial⟩ ?_
    rintro r m ⟨v2, s2, hm, rfl, rfl⟩ _
    have hs2 : s2.Ok := by have := hs.meet 1; rw [← hm] at this; exact this
    obtain ⟨room, e, n, put, got, back, hand⟩ := s2
    refine ⟨_, fun _ => Ent.opn 0 rfl, ?_⟩
    cbv
    refine bc_split (fun h4 => ?_) (fun h4 => ?_)
    · cbv
      subst hQ hA
      refine ⟨.tup [.dv .nils, .dv (.int .i64 v2)], _, Ent.cls1 [1] (pmem ⟨room, e, n, put, got, back, hand⟩) rfl rfl ⟨⟨rfl, ⟨rfl, rfl, fun _ _ _ _ => rfl⟩, rfl, rfl, rfl, rfl, trivial⟩, ⟨rfl, rfl, fun _ _ _ _ => rfl⟩, trivial⟩ ⟨rfl, trivial⟩, none, v2, ⟨room, e, n, put, got, back, hand⟩, ?_, rfl, rfl⟩
      rw [PSt.recv, if_neg (by simp [hh])]
      simp only [← hm]
      rw [if_pos (by simpa using h4)]
    · cbv
      intro hn
      cbv
      refine bc_split (fun h5 => ?_) (fun h5 => ?_)
      · cbv
        subst hQ hA
        refine ⟨.tup [.dv .nils, .dv (.int .i64 6)], _, Ent.cls1 [1] (pmem ⟨room, e, n, put, got, back, hand⟩) rfl rfl ⟨⟨rfl, ⟨rfl, rfl, fun _ _ _ _ => rfl⟩, rfl, rfl, rfl, rfl, trivial⟩, ⟨rfl, rfl, fun _ _ _ _ => rfl⟩, trivial⟩ ⟨rfl, trivial⟩, none, 6, ⟨room, e, n, put, got, back, hand⟩, ?_, rfl, rfl⟩
        rw [PSt.recv, if_neg (by simp [hh])]
        simp only [← hm]
        rw [if_neg (by simpa using h4), if_pos (by simpa using h5)]
      · cbv
        have hlt : got < n := by subst hA; simpa using h5
        have hg0 := hs2.got
        simp only at hg0
        refine ⟨by subst hA; simp; omega, fun k hk hk2 => ?_⟩
        have hk3 : k = got.toNat := by subst hA; exact hk
        obtain ⟨ml, g, hml, hput⟩ := hs2.puts k hk2
        simp only at hput
        cbv
        rw [hput]
        cbv
        refine call_pure hP code_slices_Clone_Sint_int (ok_Clone_ints ml g (by omega)) (by cbv; all_goals simp) ?_
        rintro r rfl
        cbv
        have e1 : A.bin .add .i64 got 1 = got + 1 := by
          subst hA; simp only [std_add]; rw [w64_in (by omega)]
        have e2 : A.bin .add .i64 hand 1 = hand + 1 := by
          have := hs2.hand
          simp only at this
          subst hA; simp only [std_add]; rw [w64_in (by omega)]
        subst hQ hA
        refine ⟨.tup [.dv (.seq ml 1 g), .dv (.int .i64 0)], _, Ent.cls1 [1] (pmem ⟨room, e, n, put, got + 1, back, hand + 1⟩) rfl rfl ⟨⟨rfl, ⟨rfl, rfl, fun _ _ _ _ => rfl⟩, rfl, congrArg (fun z => SV.dv (DV.int .i64 z)) e1, rfl, congrArg (fun z => SV.dv (DV.int .i64 z)) e2, trivial⟩, ⟨rfl, rfl, fun _ _ _ _ => rfl⟩, trivial⟩ ⟨rfl, trivial⟩, some (put k), 0, ⟨room, e, n, put, got + 1, back, hand + 1⟩, ?_, by rw [hput]; rfl, rfl⟩
        rw [PSt.recv, if_neg (by simp [hh])]
        simp only [← hm]
        rw [if_neg (by simpa using h4), if_neg (by simpa using h5), hk3]

end Go.Proofs.Ytophlodlencgiaa
