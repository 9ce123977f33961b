/-
  Walks: the chapter's example.
-/
import Derived.Test.YtophlodlencgiaaPipeL
import Derived.Test.YtophlodlencgiaaPipeO
namespace Go.Proofs.Ytophlodlencgiaa
open Go.V

theorem at1 (a : Int) : ∀ i f, i < 1 → f < 1 → listAt 1 [SV.dv (.int .i64 a)] i f = .dv (.int .i64 a) := fun i f hi hf => by
  obtain rfl : i = 0 := by omega
  obtain rfl : f = 0 := by omega
  rfl

theorem ok_alive : CallOK (O := Ob) PR n_law25_alive [] [] fun r m => r = .dv (.bool true) ∧ m = [] := by
  obtain ⟨i0, i1, i2, i3, i4, i5, i6, i7, i8, i9, i10⟩ := al_in
  refine fn_walk2 mixed fn_law25_alive (Ent.refl _ _) fun A P hA hP Q hQ => ?_
  cbv
  refine call_aside hP (fun _ _ => Ent.refl _ _) [] code_pipe_New (ok_pipe_New 1) rfl trivial (by cbv; all_goals trivial) ?_
  rintro r m h _
  rcases h with ⟨h, _⟩ | ⟨_, _, rfl, rfl⟩
  · omega
  obtain ⟨s0, q0⟩ : ∃ s0, s0 = al0 := ⟨_, rfl⟩
  rw [show PSt.new 1 = s0 from q0.symm]
  refine ⟨_, fun _ => Ent.refl _ _, ?_⟩
  cbv
  refine call_frz hP 1 (fun _ _ => .int .i64 7) rfl (at1 7) [0] code_pipe_Pipe_Send (ok_pipe_Send s0 (q0 ▸ i0.ok (by omega)) 1 (fun _ _ => .int .i64 7) (fun _ => 7) (fun _ _ => rfl)) rfl ⟨rfl, trivial⟩ ⟨rfl, rfl, trivial⟩ ?_
  rintro r m ⟨v1, s1, h, rfl, rfl⟩ _
  obtain ⟨q1, y1⟩ := Prod.mk.inj (h.symm.trans ((congrArg (fun s => s.send (D1 7) 1 fun _ => 7) q0).trans al1_eq))
  clear h
  refine ⟨_, fun _ => Ent.refl _ _, ?_⟩
  cbv
  refine call_frz hP 2 (fun _ _ => .int .i64 8) rfl (at1 8) [0] code_pipe_Pipe_Send (ok_pipe_Send s1 (q1 ▸ i1.ok (by omega)) 1 (fun _ _ => .int .i64 8) (fun _ => 8) (fun _ _ => rfl)) rfl ⟨rfl, trivial⟩ ⟨rfl, rfl, trivial⟩ ?_
  rintro r m ⟨v2, s2, h, rfl, rfl⟩ _
  obtain ⟨q2, y2⟩ := Prod.mk.inj (h.symm.trans ((congrArg (fun s => s.send (D1 8) 1 fun _ => 8) q1).trans al2_eq))
  clear h
  refine ⟨_, fun _ => Ent.refl _ _, ?_⟩
  cbv
  refine call_aside hP (fun _ _ => Ent.refl _ _) [0] code_pipe_Pipe_Recv (ok_pipe_Recv s2 (q2 ▸ i2.ok (by omega))) rfl ⟨rfl, trivial⟩ ⟨rfl, trivial⟩ ?_
  rintro r m ⟨d3, v3, s3, h, rfl, rfl⟩ _
  obtain ⟨q3, h⟩ := Prod.mk.inj (h.symm.trans ((congrArg PSt.recv q2).trans al3_eq))
  obtain ⟨rfl, y3⟩ := Prod.mk.inj h
  clear h
  refine ⟨_, fun _ => Ent.refl _ _, ?_⟩
  cbv
  refine call_aside hP (fun _ _ => Ent.refl _ _) [0] code_pipe_Pipe_Hold (ok_pipe_Hold s3 0) rfl ⟨rfl, trivial⟩ ⟨rfl, rfl, trivial⟩ ?_
  rintro r m ⟨v4, s4, h, rfl, rfl⟩ _
  obtain ⟨q4, y4⟩ := Prod.mk.inj (h.trans ((congrArg (fun s => s.hold 0) q3).trans al4_eq))
  clear h
  refine ⟨_, fun _ => Ent.refl _ _, ?_⟩
  cbv
  refine call_aside hP (fun _ _ => Ent.refl _ _) [0] code_pipe_Pipe_Start (ok_pipe_Start s4 0) rfl ⟨rfl, trivial⟩ ⟨rfl, rfl, trivial⟩ ?_
  rintro r m ⟨v5, s5, h, rfl, rfl⟩ _
  obtain ⟨q5, y5⟩ := Prod.mk.inj (h.trans ((congrArg (fun s => s.start 0) q4).trans al5_eq))
  clear h
  refine ⟨_, fun _ => Ent.refl _ _, ?_⟩
  cbv
  refine call_aside hP (fun _ _ => Ent.refl _ _) [0] code_pipe_Pipe_Recv (ok_pipe_Recv s5 (q5 ▸ i5.ok (by omega))) rfl ⟨rfl, trivial⟩ ⟨rfl, trivial⟩ ?_
  rintro r m ⟨d6, v6, s6, h, rfl, rfl⟩ _
  obtain ⟨q6, h⟩ := Prod.mk.inj (h.symm.trans ((congrArg PSt.recv q5).trans al6_eq))
  obtain ⟨rfl, y6⟩ := Prod.mk.inj h
  clear h
  refine ⟨_, fun _ => Ent.refl _ _, ?_⟩
  cbv
  refine call_aside hP (fun _ _ => Ent.refl _ _) [0] code_pipe_Pipe_Recv (ok_pipe_Recv s6 (q6 ▸ i6.ok (by omega))) rfl ⟨rfl, trivial⟩ ⟨rfl, trivial⟩ ?_
  rintro r m ⟨d7, v7, s7, h, rfl, rfl⟩ _
  obtain ⟨q7, h⟩ := Prod.mk.inj (h.symm.trans ((congrArg PSt.recv q6).trans al7_eq))
  obtain ⟨rfl, y7⟩ := Prod.mk.inj h
  clear h
  refine ⟨_, fun _ => Ent.refl _ _, ?_⟩
  cbv
  refine call_frz hP 3 (fun _ _ => .int .i64 9) rfl (at1 9) [0] code_pipe_Pipe_Send (ok_pipe_Send s7 (q7 ▸ i7.ok (by omega)) 1 (fun _ _ => .int .i64 9) (fun _ => 9) (fun _ _ => rfl)) rfl ⟨rfl, trivial⟩ ⟨rfl, rfl, trivial⟩ ?_
  rintro r m ⟨v8, s8, h, rfl, rfl⟩ _
  obtain ⟨q8, y8⟩ := Prod.mk.inj (h.symm.trans ((congrArg (fun s => s.send (D1 9) 1 fun _ => 9) q7).trans al8_eq))
  clear h
  refine ⟨_, fun _ => Ent.refl _ _, ?_⟩
  cbv
  refine call_frz hP 4 (fun _ _ => .int .i64 9) rfl (at1 9) [0] code_pipe_Pipe_Send (ok_pipe_Send s8 (q8 ▸ i8.ok (by omega)) 1 (fun _ _ => .int .i64 9) (fun _ => 9) (fun _ _ => rfl)) rfl ⟨rfl, trivial⟩ ⟨rfl, rfl, trivial⟩ ?_
  rintro r m ⟨v9, s9, h, rfl, rfl⟩ _
  obtain ⟨q9, y9⟩ := Prod.mk.inj (h.symm.trans ((congrArg (fun s => s.send (D1 9) 1 fun _ => 9) q8).trans al9_eq))
  clear h
  refine ⟨_, fun _ => Ent.refl _ _, ?_⟩
  cbv
  refine call_aside hP (fun _ _ => Ent.refl _ _) [0] code_pipe_Pipe_Recv (ok_pipe_Recv s9 (q9 ▸ i9.ok (by omega))) rfl ⟨rfl, trivial⟩ ⟨rfl, trivial⟩ ?_
  rintro r m ⟨d10, v10, s10, h, rfl, rfl⟩ _
  obtain ⟨q10, h⟩ := Prod.mk.inj (h.symm.trans ((congrArg PSt.recv q9).trans al10_eq))
  obtain ⟨rfl, y10⟩ := Prod.mk.inj h
  clear h
  refine ⟨_, fun _ => Ent.refl _ _, ?_⟩
  cbv
  refine bc_true (by subst hA; simp [y1]) ?_
  cbv
  refine bc_true (by subst hA; simp [y2]) ?_
  cbv
  refine bc_true (by subst hA; simp [y3]) ?_
  cbv
  refine call_frz hP 5 (fun _ _ => .int .i64 7) rfl (at1 7) [] code_ref03_Same (ok_Same 1 (fun _ _ => .int .i64 7) (fun _ => 7) (fun _ _ => rfl) 1 (fun _ _ => .int .i64 7) (fun _ => 7) (fun _ _ => rfl)) rfl trivial ⟨rfl, rfl, trivial⟩ ?_
  rintro r m ⟨⟨v, hv, rfl⟩, rfl⟩ _
  obtain rfl : v = true := hv.trans (by rw [sameW_iff]; exact ⟨rfl, fun _ _ => rfl⟩)
  refine ⟨_, fun _ => Ent.refl _ _, ?_⟩
  cbv
  refine bc_true (by subst hA; simp [y4]) ?_
  cbv
  refine bc_true (by subst hA; simp [y5]) ?_
  cbv
  refine bc_true (by subst hA; simp [y6]) ?_
  cbv
  refine bc_true (by subst hA; simp [y7]) ?_
  cbv
  refine bc_true (by subst hA; simp [y8]) ?_
  cbv
  refine bc_true (by subst hA; simp [y9]) ?_
  cbv
  refine bc_true (by subst hA; simp [y10]) ?_
  cbv
  refine call_frz hP 6 (fun _ _ => .int .i64 9) rfl (at1 9) [] code_ref03_Same (ok_Same 1 (fun _ _ => .int .i64 9) (fun _ => 9) (fun _ _ => rfl) 1 (fun _ _ => .int .i64 9) (fun _ => 9) (fun _ _ => rfl)) rfl trivial ⟨rfl, rfl, trivial⟩ ?_
  rintro r m ⟨⟨v, hv, rfl⟩, rfl⟩ _
  obtain rfl : v = true := hv.trans (by rw [sameW_iff]; exact ⟨rfl, fun _ _ => rfl⟩)
  refine ⟨_, fun _ => Ent.refl _ _, ?_⟩
  cbv
  subst hQ hA
  exact ⟨.dv (.bool true), [], Ent.none_ rfl, rfl, rfl⟩

end Go.Proofs.Ytophlodlencgiaa
