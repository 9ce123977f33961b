/-
  Walks: what is got in a link is a beginning of what was put in it.
-/
import Derived.Test.YtophlodlencgiaaPipeX
import Derived.Test.YtophlodlencgiaaPipeR
namespace Go.Proofs.Ytophlodlencgiaa
open Go.V

set_option maxHeartbeats 4000000 in
theorem ok_PipePrefix (room : Int) (n : Nat) (G : Nat → Nat → DV) (o : Ops n G) : CallOK (O := Ob) PR n_law25_PipePrefix [.dv (.int .i64 room), .dv (.seq n 3 G)] [] fun r _ => r = .dv (.bool true) := by
  refine fn_walk2 mixed fn_law25_PipePrefix (Ent.refl _ _) fun A P hA hP Q hQ => ?_
  cbv
  refine call_aside hP (fun _ _ => Ent.refl _ _) [] code_pipe_New (ok_pipe_New room) rfl trivial (by cbv; all_goals trivial) ?_
  rintro r m h _
  rcases h with ⟨_, rfl, rfl⟩ | ⟨hr1, hr2, rfl, rfl⟩
  · refine ⟨_, fun _ => Ent.refl _ _, ?_⟩
    cbv
    refine call_pure hP code_law25_alive ok_alive (by cbv; all_goals trivial) ?_
    rintro r rfl
    cbv
    subst hQ hA
    exact ⟨.dv (.bool true), [], Ent.none_ rfl, rfl⟩
  generalize hs0 : PSt.new room = s0
  have hn0 : s0.n = 0 := by rw [← hs0]; rfl
  have hg0 : s0.got = 0 := by rw [← hs0]; rfl
  have hb0 : s0.back = 0 := by rw [← hs0]; rfl
  have hin0 : s0.In 0 := hs0 ▸ PSt.In.new room 0
  have hro0 : s0.room = room := by rw [← hs0]; rfl
  clear hs0
  refine ⟨_, fun _ => Ent.refl _ _, ?_⟩
  cbv
  refine call_pure hP code_law25_few (ok_few n G o 120) (by cbv; all_goals trivial) ?_
  rintro r ⟨v, hv, rfl⟩
  cbv
  refine bc_split (fun h1 => ?_) (fun h1 => ?_)
  · cbv
    refine call_pure hP code_law25_alive ok_alive (by cbv; all_goals trivial) ?_
    rintro r rfl
    cbv
    subst hQ hA
    exact ⟨.dv (.bool true), [], Ent.none_ rfl, rfl⟩
  have hfew := hv (by subst hA; simpa using h1)
  have hn120 : n ≤ 120 := hfew.1
  cbv
  clear h1 hv
  intro hn
  cbv
  refine loop_at mixed hP hA (fun i : { i : Nat × PSt // i.1 ≤ n ∧ i.2.In i.1 ∧ i.2.room = room } => ⟨envOf 123 [(0, .dv (.int .i64 room)), (1, .dv (.seq n 3 G)), (5, .ptr 0 0), (6, .vec 1), (7, .dv (.int .i64 (i.1.2.got))), (8, .dv (.int .i64 (i.1.2.back))), (23, .dv (.seq n 3 G)), (24, .dv (.int .i64 (A.ofN n))), (25, .dv (.int .i64 (A.ofN i.1.1)))], [.obj (pob i.1.2), .vec i.1.2.n 1 fun j _ => .dv (i.1.2.put j)]⟩) (fun i => n - i.1.1) ⟨(0, s0), Nat.zero_le _, hin0, hro0⟩ ?_ ?_
  · refine (Ent.nilv 6 1 (fun i _ => .dv (s0.put i)) rfl).trans (Ent.trans (Ent.ren (s' := ⟨envOf 123 [(0, .dv (.int .i64 room)), (1, .dv (.seq n 3 G)), (5, .ptr 0 0), (6, .vec 1), (7, .dv (.int .i64 (0))), (8, .dv (.int .i64 (0))), (23, .dv (.seq n 3 G)), (24, .dv (.int .i64 (A.ofN n))), (25, .dv (.int .i64 (A.ofN 0)))], [.obj (pob s0), .vec s0.n 1 fun j _ => .dv (s0.put j)]⟩) [0, 1] rfl rfl ⟨rfl, ⟨hn0.symm, rfl, fun i f hi _ => absurd hi (Nat.not_lt_zero i)⟩, trivial⟩ ?_) ?_)
    · cbv
      subst hA
      simp
    · show Ent _ _ (⟨envOf 123 [(0, .dv (.int .i64 room)), (1, .dv (.seq n 3 G)), (5, .ptr 0 0), (6, .vec 1), (7, .dv (.int .i64 (s0.got))), (8, .dv (.int .i64 (s0.back))), (23, .dv (.seq n 3 G)), (24, .dv (.int .i64 (A.ofN n))), (25, .dv (.int .i64 (A.ofN 0)))], [.obj (pob s0), .vec s0.n 1 fun j _ => .dv (s0.put j)]⟩ : St Ob)
      rw [hg0, hb0]
      exact Ent.refl _ _
  rintro ⟨⟨i, s⟩, hi, hin, hro⟩
  have hi : i ≤ n := hi
  have hin : s.In i := hin
  have hro : s.room = room := hro
  obtain ⟨room', e, np, put, got, back, hand⟩ := s
  have hro : room' = room := hro
  subst hro
  cbv
  refine bc_split (fun h2 => ?_) (fun h2 => ?_)
  · cbv
    have h3 : i < n := by subst hA; simpa using h2
    refine ⟨by subst hA; simp; omega, fun k hk hk2 => ?_⟩
    obtain rfl : k = i := by subst hA; simpa using hk
    cbv
    rw [o.h0 k hk2, o.h1 k hk2, o.h2 k hk2]
    have hg := o.h3 k hk2
    have hm50 := hfew.2 k hk2
    generalize hmk : o.m k = mk at *
    generalize o.kind k = kd at *
    generalize o.k k = kk at *
    generalize o.g k = gk at *
    generalize o.x k = xk at *
    cbv
    refine call_aside hP (fun _ _ => Ent.refl _ _) [0] code_law25_do (ok_do ⟨room', e, np, put, got, back, hand⟩ (hin.ok (by omega)) kd kk mk gk xk hg) rfl ⟨rfl, trivial⟩ ⟨rfl, rfl, trivial⟩ ?_
    rintro r m ⟨d, v, s', hst, rfl, rfl⟩ _
    have hin' : s'.In (k + 1) := by have := hin.step kd kk mk gk xk hg; rw [hst] at this; exact this
    have hro' : s'.room = room' := by have := PSt.start_room ⟨room', e, np, put, got, back, hand⟩ kd kk mk gk xk; rw [hst] at this; exact this
    generalize hdd : d.getD .nils = dd
    have q25 : A.bin .add .i64 (A.ofN k) 1 = A.ofN (k + 1) := by subst hA; simp; rw [w64_in (by omega)]
    have b0 : 0 ≤ back ∧ back.toNat ≤ k := by have := hin.back; simp only at this; omega
    have b1 : 0 ≤ got ∧ got.toNat ≤ k := by have := hin.got; simp only at this; omega
    have b2 : np ≤ k := hin.n
    refine ⟨_, fun _ => Ent.refl _ _, ?_⟩
    cbv
    refine bc_split (fun f1 => ?_) (fun f1 => ?_)
    · cbv
      obtain rfl : kd = 0 := by subst hA; simpa using f1
      obtain ⟨hg', hb', hc⟩ := PSt.step_send hst
      dsimp only at hg' hb' hc
      refine bc_split (fun f2 => ?_) (fun f2 => ?_)
      · cbv
        have hv8 : v = 8 := by subst hA; simpa using f2
        have hn' : s'.n = 0 := by rcases hc with ⟨_, h⟩ | ⟨h, _⟩ | ⟨h, _⟩ <;> first | exact h | (exfalso; omega)
        refine ⟨⟨(k + 1, s'), h3, hin', hro'⟩, by simp only; omega, (Ent.nilv 6 1 (fun i _ => .dv (s'.put i)) rfl).trans ((Ent.trans (Ent.ren (s' := ⟨envOf 123 [(0, .dv (.int .i64 room')), (1, .dv (.seq n 3 G)), (5, .ptr 0 0), (6, .vec 1), (7, .dv (.int .i64 (got))), (8, .dv (.int .i64 (back))), (23, .dv (.seq n 3 G)), (24, .dv (.int .i64 (A.ofN n))), (25, .dv (.int .i64 (A.bin .add .i64 (A.ofN k) 1)))], [.obj (pob s'), .vec s'.n 1 fun j _ => .dv (s'.put j)]⟩) [0, 3] rfl rfl ⟨rfl, ⟨by exact hn'.symm, rfl, fun i f hi _ => absurd hi (Nat.not_lt_zero i)⟩, trivial⟩ (by cbv; all_goals trivial)) ?_))⟩
        show Ent _ _ (⟨envOf 123 [(0, .dv (.int .i64 room')), (1, .dv (.seq n 3 G)), (5, .ptr 0 0), (6, .vec 1), (7, .dv (.int .i64 (s'.got))), (8, .dv (.int .i64 (s'.back))), (23, .dv (.seq n 3 G)), (24, .dv (.int .i64 (A.ofN n))), (25, .dv (.int .i64 (A.ofN (k + 1))))], [.obj (pob s'), .vec s'.n 1 fun j _ => .dv (s'.put j)]⟩ : St Ob)
        rw [← hg', ← hb', q25]
        exact Ent.refl _ _
      · cbv
        have hv8 : v ≠ 8 := by subst hA; simpa using f2
        refine bc_true (by subst hA; simp; try omega) ?_
        cbv
        refine bc_split (fun f3 => ?_) (fun f3 => ?_)
        · cbv
          have hv0 : v = 0 := by subst hA; simpa using f3
          obtain ⟨hn', hp', hr'⟩ : s'.n = np + 1 ∧ (∀ i, i < np + 1 → s'.put i = if i < np then put i else .seq mk 1 gk) ∧ np < (room' + back).toNat := by rcases hc with ⟨h, _⟩ | ⟨_, h⟩ | ⟨_, h, _⟩ <;> first | exact h | (exfalso; omega)
          refine ⟨by subst hA; simp [maxN]; omega, ?_⟩
          cbv
          intro _
          cbv
          have e1 : A.bin .sub .i64 (A.ofN (A.add np 1)) back = np + 1 - back := by
            subst hA; rw [show std.add np 1 = np + 1 from rfl]; simp only [std_sub, std_ofN]; rw [w64_in (by omega)]; omega
          refine bc_false (by show A.cmp .gtr (A.bin .sub .i64 (A.ofN (A.add np 1)) back) room' = false; rw [e1]; subst hA; simp; omega) ?_
          cbv
          refine ⟨⟨(k + 1, s'), h3, hin', hro'⟩, by simp only; omega, (Ent.trans (Ent.ren (s' := ⟨envOf 123 [(0, .dv (.int .i64 room')), (1, .dv (.seq n 3 G)), (5, .ptr 0 0), (6, .vec 1), (7, .dv (.int .i64 (got))), (8, .dv (.int .i64 (back))), (23, .dv (.seq n 3 G)), (24, .dv (.int .i64 (A.ofN n))), (25, .dv (.int .i64 (A.bin .add .i64 (A.ofN k) 1)))], [.obj (pob s'), .vec s'.n 1 fun j _ => .dv (s'.put j)]⟩) [0, 4] rfl rfl (by subst hA; exact ⟨rfl, ⟨by exact hn'.symm, rfl, fun i f hi hf => by
            have hi : i < np + 1 := hi
            have hf : f < 1 := hf
            obtain rfl : f = 0 := by omega
            show VLe [0, 4] (if i < np then SV.dv (put i) else listAt 1 [SV.dv (.seq mk 1 gk)] (i - np) 0) (SV.dv (s'.put i))
            rw [hp' i hi]
            by_cases hin : i < np
            · rw [if_pos hin, if_pos hin]; rfl
            · obtain rfl : i = np := by omega
              rw [if_neg hin, if_neg hin, Nat.sub_self]; rfl⟩, trivial⟩) (by cbv; all_goals trivial)) ?_)⟩
          show Ent _ _ (⟨envOf 123 [(0, .dv (.int .i64 room')), (1, .dv (.seq n 3 G)), (5, .ptr 0 0), (6, .vec 1), (7, .dv (.int .i64 (s'.got))), (8, .dv (.int .i64 (s'.back))), (23, .dv (.seq n 3 G)), (24, .dv (.int .i64 (A.ofN n))), (25, .dv (.int .i64 (A.ofN (k + 1))))], [.obj (pob s'), .vec s'.n 1 fun j _ => .dv (s'.put j)]⟩ : St Ob)
          rw [← hg', ← hb', q25]
          exact Ent.refl _ _
        · cbv
          have hv0 : v ≠ 0 := by subst hA; simpa using f3
          obtain ⟨hn', hp'⟩ : s'.n = np ∧ s'.put = put := by rcases hc with ⟨h, _⟩ | ⟨h, _⟩ | ⟨_, _, h⟩ <;> first | exact h | (exfalso; omega)
          refine bc_false (by subst hA; simp; try omega) ?_
          cbv
          refine bc_false (by subst hA; simp; try omega) ?_
          cbv
          refine bc_true (by subst hA; simp; try omega) ?_
          cbv
          refine ⟨⟨(k + 1, s'), h3, hin', hro'⟩, by simp only; omega, (Ent.trans (Ent.ren (s' := ⟨envOf 123 [(0, .dv (.int .i64 room')), (1, .dv (.seq n 3 G)), (5, .ptr 0 0), (6, .vec 1), (7, .dv (.int .i64 (got))), (8, .dv (.int .i64 (back))), (23, .dv (.seq n 3 G)), (24, .dv (.int .i64 (A.ofN n))), (25, .dv (.int .i64 (A.bin .add .i64 (A.ofN k) 1)))], [.obj (pob s'), .vec s'.n 1 fun j _ => .dv (s'.put j)]⟩) [0, 1] rfl rfl ⟨rfl, ⟨by exact hn'.symm, rfl, fun i f hi hf => by exact congrArg SV.dv (congrFun hp'.symm i)⟩, trivial⟩ (by cbv; all_goals trivial)) ?_)⟩
          show Ent _ _ (⟨envOf 123 [(0, .dv (.int .i64 room')), (1, .dv (.seq n 3 G)), (5, .ptr 0 0), (6, .vec 1), (7, .dv (.int .i64 (s'.got))), (8, .dv (.int .i64 (s'.back))), (23, .dv (.seq n 3 G)), (24, .dv (.int .i64 (A.ofN n))), (25, .dv (.int .i64 (A.ofN (k + 1))))], [.obj (pob s'), .vec s'.n 1 fun j _ => .dv (s'.put j)]⟩ : St Ob)
          rw [← hg', ← hb', q25]
          exact Ent.refl _ _
    · cbv
      have k0 : kd ≠ 0 := by subst hA; simpa using f1
      refine bc_false (by subst hA; simp; try omega) ?_
      cbv
      refine bc_split (fun f4 => ?_) (fun f4 => ?_)
      · cbv
        have k3 : kd = 3 := by subst hA; simpa using f4
        obtain ⟨hg', hb', hn', hp'⟩ := PSt.step_hs (.inl k3) hst
        dsimp only at hg' hb' hn' hp'
        refine ⟨⟨(k + 1, s'), h3, hin', hro'⟩, by simp only; omega, (Ent.trans (Ent.ren (s' := ⟨envOf 123 [(0, .dv (.int .i64 room')), (1, .dv (.seq n 3 G)), (5, .ptr 0 0), (6, .vec 1), (7, .dv (.int .i64 (got))), (8, .dv (.int .i64 (back))), (23, .dv (.seq n 3 G)), (24, .dv (.int .i64 (A.ofN n))), (25, .dv (.int .i64 (A.bin .add .i64 (A.ofN k) 1)))], [.obj (pob s'), .vec s'.n 1 fun j _ => .dv (s'.put j)]⟩) [0, 1] rfl rfl ⟨rfl, ⟨by exact hn'.symm, rfl, fun i f hi hf => by exact congrArg SV.dv (congrFun hp'.symm i)⟩, trivial⟩ (by cbv; all_goals trivial)) ?_)⟩
        show Ent _ _ (⟨envOf 123 [(0, .dv (.int .i64 room')), (1, .dv (.seq n 3 G)), (5, .ptr 0 0), (6, .vec 1), (7, .dv (.int .i64 (s'.got))), (8, .dv (.int .i64 (s'.back))), (23, .dv (.seq n 3 G)), (24, .dv (.int .i64 (A.ofN n))), (25, .dv (.int .i64 (A.ofN (k + 1))))], [.obj (pob s'), .vec s'.n 1 fun j _ => .dv (s'.put j)]⟩ : St Ob)
        rw [← hg', ← hb', q25]
        exact Ent.refl _ _
      · cbv
        have k3 : kd ≠ 3 := by subst hA; simpa using f4
        refine bc_split (fun f5 => ?_) (fun f5 => ?_)
        · cbv
          have k4 : kd = 4 := by subst hA; simpa using f5
          obtain ⟨hg', hb', hn', hp'⟩ := PSt.step_hs (.inr k4) hst
          dsimp only at hg' hb' hn' hp'
          refine ⟨⟨(k + 1, s'), h3, hin', hro'⟩, by simp only; omega, (Ent.trans (Ent.ren (s' := ⟨envOf 123 [(0, .dv (.int .i64 room')), (1, .dv (.seq n 3 G)), (5, .ptr 0 0), (6, .vec 1), (7, .dv (.int .i64 (got))), (8, .dv (.int .i64 (back))), (23, .dv (.seq n 3 G)), (24, .dv (.int .i64 (A.ofN n))), (25, .dv (.int .i64 (A.bin .add .i64 (A.ofN k) 1)))], [.obj (pob s'), .vec s'.n 1 fun j _ => .dv (s'.put j)]⟩) [0, 1] rfl rfl ⟨rfl, ⟨by exact hn'.symm, rfl, fun i f hi hf => by exact congrArg SV.dv (congrFun hp'.symm i)⟩, trivial⟩ (by cbv; all_goals trivial)) ?_)⟩
          show Ent _ _ (⟨envOf 123 [(0, .dv (.int .i64 room')), (1, .dv (.seq n 3 G)), (5, .ptr 0 0), (6, .vec 1), (7, .dv (.int .i64 (s'.got))), (8, .dv (.int .i64 (s'.back))), (23, .dv (.seq n 3 G)), (24, .dv (.int .i64 (A.ofN n))), (25, .dv (.int .i64 (A.ofN (k + 1))))], [.obj (pob s'), .vec s'.n 1 fun j _ => .dv (s'.put j)]⟩ : St Ob)
          rw [← hg', ← hb', q25]
          exact Ent.refl _ _
        · cbv
          have k4 : kd ≠ 4 := by subst hA; simpa using f5
          refine bc_false (by subst hA; simp; try omega) ?_
          cbv
          refine bc_split (fun f6 => ?_) (fun f6 => ?_)
          · cbv
            have hv8 : v = 8 := by subst hA; simpa using f6
            obtain ⟨hn', hp', hg', hb'⟩ : s'.n = np ∧ s'.put = put ∧ s'.got = 0 ∧ s'.back = 0 := by
              by_cases k2 : kd = 2
              · subst k2
                obtain ⟨h1, h2, h | h | h⟩ := PSt.step_release hst <;> first | exact ⟨h1, h2, h.2⟩ | (exfalso; omega)
              · obtain ⟨h1, h2, h | h | h⟩ := PSt.step_recv b1.1 ⟨k0, k2, k3, k4⟩ hst <;> first | exact ⟨h1, h2, h.2⟩ | (exfalso; omega)
            refine ⟨⟨(k + 1, s'), h3, hin', hro'⟩, by simp only; omega, (Ent.trans (Ent.ren (s' := ⟨envOf 123 [(0, .dv (.int .i64 room')), (1, .dv (.seq n 3 G)), (5, .ptr 0 0), (6, .vec 1), (7, .dv (.int .i64 (0))), (8, .dv (.int .i64 (0))), (23, .dv (.seq n 3 G)), (24, .dv (.int .i64 (A.ofN n))), (25, .dv (.int .i64 (A.bin .add .i64 (A.ofN k) 1)))], [.obj (pob s'), .vec s'.n 1 fun j _ => .dv (s'.put j)]⟩) [0, 1] rfl rfl ⟨rfl, ⟨by exact hn'.symm, rfl, fun i f hi hf => by exact congrArg SV.dv (congrFun hp'.symm i)⟩, trivial⟩ (by cbv; all_goals trivial)) ?_)⟩
            show Ent _ _ (⟨envOf 123 [(0, .dv (.int .i64 room')), (1, .dv (.seq n 3 G)), (5, .ptr 0 0), (6, .vec 1), (7, .dv (.int .i64 (s'.got))), (8, .dv (.int .i64 (s'.back))), (23, .dv (.seq n 3 G)), (24, .dv (.int .i64 (A.ofN n))), (25, .dv (.int .i64 (A.ofN (k + 1))))], [.obj (pob s'), .vec s'.n 1 fun j _ => .dv (s'.put j)]⟩ : St Ob)
            rw [hg', hb', q25]
            exact Ent.refl _ _
          · cbv
            have hv8 : v ≠ 8 := by subst hA; simpa using f6
            refine bc_split (fun f7 => ?_) (fun f7 => ?_)
            · cbv
              obtain rfl : kd = 2 := by subst hA; simpa using f7
              refine bc_split (fun f8 => ?_) (fun f8 => ?_)
              · cbv
                have hv0 : v = 0 := by subst hA; simpa using f8
                obtain ⟨hn', hp', hg', hb'⟩ : s'.n = np ∧ s'.put = put ∧ s'.got = got ∧ s'.back = back + 1 := by
                  obtain ⟨h1, h2, h | h | h⟩ := PSt.step_release hst <;> first | exact ⟨h1, h2, h.2⟩ | (exfalso; omega)
                have q8 : A.bin .add .i64 back 1 = s'.back := by rw [hb']; subst hA; simp; rw [w64_in (by omega)]
                refine ⟨⟨(k + 1, s'), h3, hin', hro'⟩, by simp only; omega, (Ent.trans (Ent.ren (s' := ⟨envOf 123 [(0, .dv (.int .i64 room')), (1, .dv (.seq n 3 G)), (5, .ptr 0 0), (6, .vec 1), (7, .dv (.int .i64 (got))), (8, .dv (.int .i64 (A.bin .add .i64 back 1))), (23, .dv (.seq n 3 G)), (24, .dv (.int .i64 (A.ofN n))), (25, .dv (.int .i64 (A.bin .add .i64 (A.ofN k) 1)))], [.obj (pob s'), .vec s'.n 1 fun j _ => .dv (s'.put j)]⟩) [0, 1] rfl rfl ⟨rfl, ⟨by exact hn'.symm, rfl, fun i f hi hf => by exact congrArg SV.dv (congrFun hp'.symm i)⟩, trivial⟩ (by cbv; all_goals trivial)) ?_)⟩
                show Ent _ _ (⟨envOf 123 [(0, .dv (.int .i64 room')), (1, .dv (.seq n 3 G)), (5, .ptr 0 0), (6, .vec 1), (7, .dv (.int .i64 (s'.got))), (8, .dv (.int .i64 (s'.back))), (23, .dv (.seq n 3 G)), (24, .dv (.int .i64 (A.ofN n))), (25, .dv (.int .i64 (A.ofN (k + 1))))], [.obj (pob s'), .vec s'.n 1 fun j _ => .dv (s'.put j)]⟩ : St Ob)
                rw [← hg', q8, q25]
                exact Ent.refl _ _
              · cbv
                have hv0 : v ≠ 0 := by subst hA; simpa using f8
                obtain ⟨hn', hp', hg', hb'⟩ : s'.n = np ∧ s'.put = put ∧ s'.got = got ∧ s'.back = back := by
                  obtain ⟨h1, h2, h | h | h⟩ := PSt.step_release hst <;> first | exact ⟨h1, h2, h.2.2⟩ | (exfalso; omega)
                refine bc_false (by subst hA; simp; try omega) ?_
                cbv
                refine ⟨⟨(k + 1, s'), h3, hin', hro'⟩, by simp only; omega, (Ent.trans (Ent.ren (s' := ⟨envOf 123 [(0, .dv (.int .i64 room')), (1, .dv (.seq n 3 G)), (5, .ptr 0 0), (6, .vec 1), (7, .dv (.int .i64 (got))), (8, .dv (.int .i64 (back))), (23, .dv (.seq n 3 G)), (24, .dv (.int .i64 (A.ofN n))), (25, .dv (.int .i64 (A.bin .add .i64 (A.ofN k) 1)))], [.obj (pob s'), .vec s'.n 1 fun j _ => .dv (s'.put j)]⟩) [0, 1] rfl rfl ⟨rfl, ⟨by exact hn'.symm, rfl, fun i f hi hf => by exact congrArg SV.dv (congrFun hp'.symm i)⟩, trivial⟩ (by cbv; all_goals trivial)) ?_)⟩
                show Ent _ _ (⟨envOf 123 [(0, .dv (.int .i64 room')), (1, .dv (.seq n 3 G)), (5, .ptr 0 0), (6, .vec 1), (7, .dv (.int .i64 (s'.got))), (8, .dv (.int .i64 (s'.back))), (23, .dv (.seq n 3 G)), (24, .dv (.int .i64 (A.ofN n))), (25, .dv (.int .i64 (A.ofN (k + 1))))], [.obj (pob s'), .vec s'.n 1 fun j _ => .dv (s'.put j)]⟩ : St Ob)
                rw [← hg', ← hb', q25]
                exact Ent.refl _ _
            · cbv
              have k2 : kd ≠ 2 := by subst hA; simpa using f7
              refine bc_true (by subst hA; simp; try omega) ?_
              cbv
              obtain ⟨hn', hp', hc⟩ := PSt.step_recv b1.1 ⟨k0, k2, k3, k4⟩ hst
              dsimp only at hn' hp' hc
              refine bc_split (fun f8 => ?_) (fun f8 => ?_)
              · cbv
                have hv0 : v = 0 := by subst hA; simpa using f8
                obtain ⟨hg', hb', hlt, hd'⟩ : s'.got = got + 1 ∧ s'.back = back ∧ got.toNat < np ∧ d = some (put got.toNat) := by
                  rcases hc with h | h | h <;> first | exact h.2 | (exfalso; omega)
                intro _
                cbv
                refine bc_false (by subst hA; simp; try omega) ?_
                cbv
                refine ⟨by subst hA; simp; omega, fun l hl hl2 => ?_⟩
                have hl3 : l = got.toNat := by subst hA; exact hl
                obtain ⟨ml, g, x, hml, hput, hgx⟩ := hin.puts l hl2
                have hput : put l = .seq ml 1 g := hput
                have hdd2 : dd = .seq ml 1 g := by rw [← hdd, hd', ← hl3, hput]; rfl
                cbv
                rw [hput, hdd2]
                cbv
                refine call_pure hP code_ref03_Same (ok_Same ml g x hgx ml g x hgx) (by cbv; all_goals first | simp | trivial) ?_
                rintro r ⟨b, hb, rfl⟩
                obtain rfl : b = true := hb.trans (by rw [sameW_iff]; exact ⟨rfl, fun _ _ => rfl⟩)
                cbv
                refine bc_false (by subst hA; simp; try omega) ?_
                cbv
                have q7 : A.bin .add .i64 got 1 = s'.got := by rw [hg']; subst hA; simp; rw [w64_in (by omega)]
                refine ⟨⟨(k + 1, s'), h3, hin', hro'⟩, by simp only; omega, (Ent.trans (Ent.ren (s' := ⟨envOf 123 [(0, .dv (.int .i64 room')), (1, .dv (.seq n 3 G)), (5, .ptr 0 0), (6, .vec 1), (7, .dv (.int .i64 (A.bin .add .i64 got 1))), (8, .dv (.int .i64 (back))), (23, .dv (.seq n 3 G)), (24, .dv (.int .i64 (A.ofN n))), (25, .dv (.int .i64 (A.bin .add .i64 (A.ofN k) 1)))], [.obj (pob s'), .vec s'.n 1 fun j _ => .dv (s'.put j)]⟩) [0, 1] rfl rfl ⟨rfl, ⟨by exact hn'.symm, rfl, fun i f hi hf => by exact congrArg SV.dv (congrFun hp'.symm i)⟩, trivial⟩ (by cbv; all_goals trivial)) ?_)⟩
                show Ent _ _ (⟨envOf 123 [(0, .dv (.int .i64 room')), (1, .dv (.seq n 3 G)), (5, .ptr 0 0), (6, .vec 1), (7, .dv (.int .i64 (s'.got))), (8, .dv (.int .i64 (s'.back))), (23, .dv (.seq n 3 G)), (24, .dv (.int .i64 (A.ofN n))), (25, .dv (.int .i64 (A.ofN (k + 1))))], [.obj (pob s'), .vec s'.n 1 fun j _ => .dv (s'.put j)]⟩ : St Ob)
                rw [q7, ← hb', q25]
                exact Ent.refl _ _
              · cbv
                have hv0 : v ≠ 0 := by subst hA; simpa using f8
                obtain ⟨hg', hb'⟩ : s'.got = got ∧ s'.back = back := by rcases hc with h | h | h <;> first | exact h.2.2 | (exfalso; omega)
                refine ⟨⟨(k + 1, s'), h3, hin', hro'⟩, by simp only; omega, (Ent.trans (Ent.ren (s' := ⟨envOf 123 [(0, .dv (.int .i64 room')), (1, .dv (.seq n 3 G)), (5, .ptr 0 0), (6, .vec 1), (7, .dv (.int .i64 (got))), (8, .dv (.int .i64 (back))), (23, .dv (.seq n 3 G)), (24, .dv (.int .i64 (A.ofN n))), (25, .dv (.int .i64 (A.bin .add .i64 (A.ofN k) 1)))], [.obj (pob s'), .vec s'.n 1 fun j _ => .dv (s'.put j)]⟩) [0, 1] rfl rfl ⟨rfl, ⟨by exact hn'.symm, rfl, fun i f hi hf => by exact congrArg SV.dv (congrFun hp'.symm i)⟩, trivial⟩ (by cbv; all_goals trivial)) ?_)⟩
                show Ent _ _ (⟨envOf 123 [(0, .dv (.int .i64 room')), (1, .dv (.seq n 3 G)), (5, .ptr 0 0), (6, .vec 1), (7, .dv (.int .i64 (s'.got))), (8, .dv (.int .i64 (s'.back))), (23, .dv (.seq n 3 G)), (24, .dv (.int .i64 (A.ofN n))), (25, .dv (.int .i64 (A.ofN (k + 1))))], [.obj (pob s'), .vec s'.n 1 fun j _ => .dv (s'.put j)]⟩ : St Ob)
                rw [← hg', ← hb', q25]
                exact Ent.refl _ _
  · cbv
    refine call_pure hP code_law25_alive ok_alive (by cbv; all_goals trivial) ?_
    rintro r rfl
    cbv
    subst hQ hA
    exact ⟨.dv (.bool true), [], Ent.none_ rfl, rfl⟩

end Go.Proofs.Ytophlodlencgiaa
