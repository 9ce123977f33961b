/-
  Walks: not more than there is room for are held, or wait.
-/
import Derived.Test.YtophlodlencgiaaPipeT
import Derived.Test.YtophlodlencgiaaPipeR
namespace Go.Proofs.Ytophlodlencgiaa
open Go.V

theorem ok_PipeCounts (room : Int) (n : Nat) (G : Nat → Nat → DV) (o : Ops n G) : CallOK (O := Ob) PR n_law25_PipeCounts [.dv (.int .i64 room), .dv (.seq n 3 G)] [] fun r _ => r = .dv (.bool true) := by
  refine fn_walk2 mixed fn_law25_PipeCounts (Ent.refl _ _) fun A P hA hP Q hQ => ?_
  cbv
  refine call_aside hP (fun _ _ => Ent.refl _ _) [] code_pipe_New (ok_pipe_New room) rfl trivial (by cbv; all_goals trivial) ?_
  rintro r m h _
  rcases h with ⟨_, rfl, rfl⟩ | ⟨hr1, hr2, rfl, rfl⟩
  · refine ⟨_, fun _ => Ent.refl _ _, ?_⟩
    cbv
    refine call_pure hP code_law25_alive ok_alive (by cbv; all_goals trivial) ?_
    rintro r rfl
    cbv
    subst hQ hA
    exact ⟨.dv (.bool true), [], Ent.none_ rfl, rfl⟩
  generalize hs0 : PSt.new room = s0
  have hinv0 : s0.Inv 0 := hs0 ▸ PSt.Inv.new (by omega)
  have hin0 : s0.In 0 := hs0 ▸ PSt.In.new room 0
  have hro0 : s0.room = room := by rw [← hs0]; rfl
  clear hs0
  refine ⟨_, fun _ => Ent.refl _ _, ?_⟩
  cbv
  refine call_pure hP code_law25_few (ok_few n G o 120) (by cbv; all_goals trivial) ?_
  rintro r ⟨v, hv, rfl⟩
  cbv
  refine bc_split (fun h1 => ?_) (fun h1 => ?_)
  · cbv
    refine call_pure hP code_law25_alive ok_alive (by cbv; all_goals trivial) ?_
    rintro r rfl
    cbv
    subst hQ hA
    exact ⟨.dv (.bool true), [], Ent.none_ rfl, rfl⟩
  have hfew := hv (by subst hA; simpa using h1)
  have hn120 : n ≤ 120 := hfew.1
  cbv
  clear h1 hv
  intro hn
  cbv
  refine loop_at mixed hP hA (fun i : { i : Nat × PSt // i.1 ≤ n ∧ i.2.Inv i.1 ∧ i.2.In i.1 ∧ i.2.room = room } => ⟨envOf 95 [(0, .dv (.int .i64 room)), (1, .dv (.seq n 3 G)), (5, .ptr 0 0), (22, .dv (.seq n 3 G)), (23, .dv (.int .i64 (A.ofN n))), (24, .dv (.int .i64 (A.ofN i.1.1)))], [.obj (pob i.1.2)]⟩) (fun i => n - i.1.1) ⟨(0, s0), Nat.zero_le _, hinv0, hin0, hro0⟩ (Ent.env (by cbv; subst hA; simp)) ?_
  rintro ⟨⟨i, s⟩, hi, hinv, hin, hro⟩
  cbv
  have hi : i ≤ n := hi
  have hinv : s.Inv i := hinv
  have hin : s.In i := hin
  have hro : s.room = room := hro
  refine bc_split (fun h2 => ?_) (fun h2 => ?_)
  · cbv
    have h3 : i < n := by subst hA; simpa using h2
    refine ⟨by subst hA; simp; omega, fun k hk hk2 => ?_⟩
    obtain rfl : k = i := by subst hA; simpa using hk
    cbv
    rw [o.h0 k hk2, o.h1 k hk2, o.h2 k hk2]
    have hg := o.h3 k hk2
    generalize hmk : o.m k = mk at *
    generalize o.kind k = kd at *
    generalize o.k k = kk at *
    generalize o.g k = gk at *
    generalize o.x k = xk at *
    cbv
    refine call_aside hP (fun _ _ => Ent.refl _ _) [0] code_pipe_Pipe_Held (ok_pipe_Held s) rfl ⟨rfl, trivial⟩ ⟨rfl, trivial⟩ ?_
    rintro r m ⟨rfl, rfl⟩ _
    refine ⟨_, fun _ => Ent.refl _ _, ?_⟩
    cbv
    refine call_aside hP (fun _ _ => Ent.refl _ _) [0] code_pipe_Pipe_Waits (ok_pipe_Waits s (hin.ok (by omega))) rfl ⟨rfl, trivial⟩ ⟨rfl, trivial⟩ ?_
    rintro r m ⟨⟨w, hw, rfl⟩, rfl⟩ _
    refine ⟨_, fun _ => Ent.refl _ _, ?_⟩
    cbv
    refine call_aside hP (fun _ _ => Ent.refl _ _) [0] code_law25_do (ok_do s (hin.ok (by omega)) kd kk mk gk xk hg) rfl ⟨rfl, trivial⟩ ⟨rfl, rfl, trivial⟩ ?_
    rintro r m ⟨d, v, s', hst, rfl, rfl⟩ _
    generalize d.getD .nils = dd
    have hinv' : s'.Inv (k + 1) := by have := hinv.step (by omega) kd kk mk gk xk; rw [hst] at this; exact this
    have hin' : s'.In (k + 1) := by have := hin.step kd kk mk gk xk; rw [hst] at this; exact this
    have hro' : s'.room = room := by have := s.start_room kd kk mk gk xk; rw [hst] at this; exact this.trans hro
    obtain ⟨c1, c2, c3⟩ := hinv'.counts (by omega)
    refine ⟨_, fun _ => Ent.refl _ _, ?_⟩
    cbv
    refine call_aside hP (fun _ _ => Ent.refl _ _) [0] code_pipe_Pipe_Held (ok_pipe_Held s') rfl ⟨rfl, trivial⟩ ⟨rfl, trivial⟩ ?_
    rintro r m ⟨rfl, rfl⟩ _
    refine ⟨_, fun _ => Ent.refl _ _, ?_⟩
    cbv
    refine bc_false (by subst hA; simp; omega) ?_
    cbv
    refine call_aside hP (fun _ _ => Ent.refl _ _) [0] code_pipe_Pipe_Waits (ok_pipe_Waits s' (hin'.ok (by omega))) rfl ⟨rfl, trivial⟩ ⟨rfl, trivial⟩ ?_
    rintro r m ⟨⟨w1, hw1, rfl⟩, rfl⟩ _
    refine ⟨_, fun _ => Ent.refl _ _, ?_⟩
    cbv
    refine bc_false (by subst hA; simp; omega) ?_
    cbv
    refine call_aside hP (fun _ _ => Ent.refl _ _) [0] code_pipe_Pipe_Held (ok_pipe_Held s') rfl ⟨rfl, trivial⟩ ⟨rfl, trivial⟩ ?_
    rintro r m ⟨rfl, rfl⟩ _
    refine ⟨_, fun _ => Ent.refl _ _, ?_⟩
    cbv
    refine call_aside hP (fun _ _ => Ent.refl _ _) [0] code_pipe_Pipe_Waits (ok_pipe_Waits s' (hin'.ok (by omega))) rfl ⟨rfl, trivial⟩ ⟨rfl, trivial⟩ ?_
    rintro r m ⟨⟨w2, hw2, rfl⟩, rfl⟩ _
    refine ⟨_, fun _ => Ent.refl _ _, ?_⟩
    cbv
    have e1 : A.bin .add .i64 s'.hand w2 = s'.hand + w2 := by
      have := hin'.hand.2; have := hin'.n; subst hA; simp only [std_add]; rw [w64_in (by omega)]
    refine bc_false (by show A.cmp .gtr (A.bin .add .i64 s'.hand w2) room = false; rw [e1]; subst hA; simp; omega) ?_
    cbv
    refine bc_split (fun f1 => ?_) (fun f1 => ?_)
    · cbv
      have g1 : v ≠ 0 := by subst hA; simpa using f1
      refine bc_split (fun f2 => ?_) (fun f2 => ?_)
      · cbv
        refine bc_split (fun f3 => ?_) (fun f3 => ?_)
        · cbv
          have g3 : kd = 0 := by subst hA; simpa using f3
          have g4 : s'.hand = s.hand := by have := s.send_hand (.seq mk 1 gk) mk xk; rw [PSt.step, if_pos g3] at hst; rw [(Prod.mk.inj hst).1] at this; exact this
          refine call_aside hP (fun _ _ => Ent.refl _ _) [0] code_pipe_Pipe_Held (ok_pipe_Held s') rfl ⟨rfl, trivial⟩ ⟨rfl, trivial⟩ ?_
          rintro r m ⟨rfl, rfl⟩ _
          refine ⟨_, fun _ => Ent.refl _ _, ?_⟩
          cbv
          refine bc_false (by subst hA; simp; omega) ?_
          cbv
          refine bc_false (by subst hA; simp; omega) ?_
          cbv
          refine ⟨⟨(k + 1, s'), h3, hinv', hin', hro'⟩, by simp only; omega, Ent.trans (Ent.ren (s' := ⟨envOf 95 [(0, .dv (.int .i64 room)), (1, .dv (.seq n 3 G)), (5, .ptr 0 0), (22, .dv (.seq n 3 G)), (23, .dv (.int .i64 (A.ofN n))), (24, .dv (.int .i64 (A.bin .add .i64 (A.ofN k) 1)))], [.obj (pob s')]⟩) [0] rfl rfl ⟨rfl, trivial⟩ (by cbv; all_goals trivial)) (Ent.env ?_)⟩
          cbv
          subst hA
          simp
          rw [w64_in (by omega)]
        · cbv
          have g3 : kd ≠ 0 := by subst hA; simpa using f3
          refine bc_split (fun f4 => ?_) (fun f4 => ?_)
          · cbv
            have gk : kd = 3 := by subst hA; simpa using f4
            have g4 : s' = s := by rw [PSt.step, if_neg g3, if_neg (by omega), if_pos gk] at hst; obtain ⟨q1, q2⟩ := Prod.mk.inj hst; rw [← q1]; exact s.hold_same kk (by rw [(Prod.mk.inj q2).2]; exact g1)
            refine call_aside hP (fun _ _ => Ent.refl _ _) [0] code_pipe_Pipe_Held (ok_pipe_Held s') rfl ⟨rfl, trivial⟩ ⟨rfl, trivial⟩ ?_
            rintro r m ⟨rfl, rfl⟩ _
            refine ⟨_, fun _ => Ent.refl _ _, ?_⟩
            cbv
            refine bc_false (by subst hA; simp [g4]) ?_
            cbv
            refine bc_true (by subst hA; simp; omega) ?_
            cbv
            refine call_aside hP (fun _ _ => Ent.refl _ _) [0] code_pipe_Pipe_Waits (ok_pipe_Waits s' (hin'.ok (by omega))) rfl ⟨rfl, trivial⟩ ⟨rfl, trivial⟩ ?_
            rintro r m ⟨⟨w3, hw3, rfl⟩, rfl⟩ _
            refine ⟨_, fun _ => Ent.refl _ _, ?_⟩
            cbv
            have g5 : w3 = w := by rw [hw3, hw, g4]
            refine bc_false (by subst hA; simp [g5]) ?_
            cbv
            refine ⟨⟨(k + 1, s'), h3, hinv', hin', hro'⟩, by simp only; omega, Ent.trans (Ent.ren (s' := ⟨envOf 95 [(0, .dv (.int .i64 room)), (1, .dv (.seq n 3 G)), (5, .ptr 0 0), (22, .dv (.seq n 3 G)), (23, .dv (.int .i64 (A.ofN n))), (24, .dv (.int .i64 (A.bin .add .i64 (A.ofN k) 1)))], [.obj (pob s')]⟩) [0] rfl rfl ⟨rfl, trivial⟩ (by cbv; all_goals trivial)) (Ent.env ?_)⟩
            cbv
            subst hA
            simp
            rw [w64_in (by omega)]
          · cbv
            refine bc_split (fun f5 => ?_) (fun f5 => ?_)
            · cbv
              have gk : kd = 4 := by subst hA; simpa using f5
              have g4 : s' = s := by rw [PSt.step, if_neg g3, if_neg (by omega), if_neg (by omega), if_pos gk] at hst; obtain ⟨q1, q2⟩ := Prod.mk.inj hst; rw [← q1]; exact s.start_same kk (by rw [(Prod.mk.inj q2).2]; exact g1)
              refine call_aside hP (fun _ _ => Ent.refl _ _) [0] code_pipe_Pipe_Held (ok_pipe_Held s') rfl ⟨rfl, trivial⟩ ⟨rfl, trivial⟩ ?_
              rintro r m ⟨rfl, rfl⟩ _
              refine ⟨_, fun _ => Ent.refl _ _, ?_⟩
              cbv
              refine bc_false (by subst hA; simp [g4]) ?_
              cbv
              refine bc_true (by subst hA; simp; omega) ?_
              cbv
              refine call_aside hP (fun _ _ => Ent.refl _ _) [0] code_pipe_Pipe_Waits (ok_pipe_Waits s' (hin'.ok (by omega))) rfl ⟨rfl, trivial⟩ ⟨rfl, trivial⟩ ?_
              rintro r m ⟨⟨w4, hw4, rfl⟩, rfl⟩ _
              refine ⟨_, fun _ => Ent.refl _ _, ?_⟩
              cbv
              have g5 : w4 = w := by rw [hw4, hw, g4]
              refine bc_false (by subst hA; simp [g5]) ?_
              cbv
              refine ⟨⟨(k + 1, s'), h3, hinv', hin', hro'⟩, by simp only; omega, Ent.trans (Ent.ren (s' := ⟨envOf 95 [(0, .dv (.int .i64 room)), (1, .dv (.seq n 3 G)), (5, .ptr 0 0), (22, .dv (.seq n 3 G)), (23, .dv (.int .i64 (A.ofN n))), (24, .dv (.int .i64 (A.bin .add .i64 (A.ofN k) 1)))], [.obj (pob s')]⟩) [0] rfl rfl ⟨rfl, trivial⟩ (by cbv; all_goals trivial)) (Ent.env ?_)⟩
              cbv
              subst hA
              simp
              rw [w64_in (by omega)]
            · cbv
              refine ⟨⟨(k + 1, s'), h3, hinv', hin', hro'⟩, by simp only; omega, Ent.trans (Ent.ren (s' := ⟨envOf 95 [(0, .dv (.int .i64 room)), (1, .dv (.seq n 3 G)), (5, .ptr 0 0), (22, .dv (.seq n 3 G)), (23, .dv (.int .i64 (A.ofN n))), (24, .dv (.int .i64 (A.bin .add .i64 (A.ofN k) 1)))], [.obj (pob s')]⟩) [0] rfl rfl ⟨rfl, trivial⟩ (by cbv; all_goals trivial)) (Ent.env ?_)⟩
              cbv
              subst hA
              simp
              rw [w64_in (by omega)]
      · cbv
        refine ⟨⟨(k + 1, s'), h3, hinv', hin', hro'⟩, by simp only; omega, Ent.trans (Ent.ren (s' := ⟨envOf 95 [(0, .dv (.int .i64 room)), (1, .dv (.seq n 3 G)), (5, .ptr 0 0), (22, .dv (.seq n 3 G)), (23, .dv (.int .i64 (A.ofN n))), (24, .dv (.int .i64 (A.bin .add .i64 (A.ofN k) 1)))], [.obj (pob s')]⟩) [0] rfl rfl ⟨rfl, trivial⟩ (by cbv; all_goals trivial)) (Ent.env ?_)⟩
        cbv
        subst hA
        simp
        rw [w64_in (by omega)]
    · cbv
      refine ⟨⟨(k + 1, s'), h3, hinv', hin', hro'⟩, by simp only; omega, Ent.trans (Ent.ren (s' := ⟨envOf 95 [(0, .dv (.int .i64 room)), (1, .dv (.seq n 3 G)), (5, .ptr 0 0), (22, .dv (.seq n 3 G)), (23, .dv (.int .i64 (A.ofN n))), (24, .dv (.int .i64 (A.bin .add .i64 (A.ofN k) 1)))], [.obj (pob s')]⟩) [0] rfl rfl ⟨rfl, trivial⟩ (by cbv; all_goals trivial)) (Ent.env ?_)⟩
      cbv
      subst hA
      simp
      rw [w64_in (by omega)]
  · cbv
    refine call_pure hP code_law25_alive ok_alive (by cbv; all_goals trivial) ?_
    rintro r rfl
    cbv
    subst hQ hA
    exact ⟨.dv (.bool true), [], Ent.none_ rfl, rfl⟩

end Go.Proofs.Ytophlodlencgiaa
