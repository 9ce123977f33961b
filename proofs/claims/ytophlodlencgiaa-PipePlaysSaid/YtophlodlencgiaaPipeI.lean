/-
  Walks: the document's pipe.
-/
import Derived.Test.YtophlodlencgiaaPipeH
namespace Go.Proofs.Ytophlodlencgiaa
open Go.V

/-- The document's pipe as a struct's cells; 'h' 'hd': what is held. -/
def rcells (s : PSt) (h : Nat) (hd : Nat → DV) : List SV :=
  [.dv (.int .i64 s.room),
   .dv (.bool (s.e 0).held), .dv (.bool (s.e 0).linked), .dv (.int .i64 (s.e 0).epoch), .dv (.int .i64 (s.e 0).known), .dv (.int .i64 (s.e 0).mark),
   .dv (.bool (s.e 1).held), .dv (.bool (s.e 1).linked), .dv (.int .i64 (s.e 1).epoch), .dv (.int .i64 (s.e 1).known), .dv (.int .i64 (s.e 1).mark),
   .dv (.seq s.n 1 fun i _ => s.put i), .dv (.seq h 1 fun i _ => hd i), .dv (.int .i64 s.got), .dv (.int .i64 s.back)]

theorem ok_R_Meet0 (s : PSt) (h : Nat) (hd : Nat → DV) : CallOK (O := Ob) PR n_ref25_Meet [.agg (rcells s h hd), .dv (.int .i64 0)] [] fun r m =>
    (∃ s' h' v, s.meet 0 = (s', v) ∧ ((s'.hand = s.hand ∧ h' = h) ∨ (s'.hand = 0 ∧ h' = 0)) ∧ r = .tup [.agg (rcells s' h' hd), .dv (.int .i64 v)]) ∧ m = [] := by
  refine fn_walk2 mixed fn_ref25_Meet (Ent.refl _ _) fun A P hA hP Q hQ => ?_
  cbv
  refine ⟨by subst hA; simp, fun k hk hk2 => ?_⟩
  obtain rfl : k = 0 := by subst hA; simpa using hk
  clear hk hk2
  cbv
  refine ⟨by subst hA; simp [w64], fun l hl hl2 => ?_⟩
  obtain rfl : l = 1 := by subst hA; simpa [w64] using hl
  clear hl hl2
  cbv
  refine And.intro ?_ ?_
  all_goals
    refine bc_split (fun h1 => ?_) (fun h1 => ?_)
    · cbv
      refine call_pure hP code_ref25_link (ok_ref25_link { s.e 0 with known := (s.e 1).epoch, linked := false }) (by cbv; all_goals simp) ?_
      rintro r ⟨v, hv, rfl⟩
      cbv
      refine ⟨by subst hA; simp, fun k hk hk2 => ?_⟩
      obtain rfl : k = 0 := by subst hA; simpa using hk
      clear hk hk2
      cbv
      refine bc_true (by subst hA; simp) ?_
      cbv
      subst hQ hA hv
      have hm : s.meet 0 = ({ s with e := updE s.e 0 { s.e 0 with known := (s.e 1).epoch, linked := false, mark := PEnd.link { s.e 0 with known := (s.e 1).epoch, linked := false } }, n := 0 }, 8) := by
        rw [PSt.meet, if_pos (by simpa using h1)]; rfl
      exact ⟨.tup [.agg (rcells { s with e := updE s.e 0 { s.e 0 with known := (s.e 1).epoch, linked := false, mark := PEnd.link { s.e 0 with known := (s.e 1).epoch, linked := false } }, n := 0 } h hd), .dv (.int .i64 8)], [], (Ent.weak1 (.tup (.cons (.agg (.cons (.same _) (.cons (.same _) (.cons (.same _) (.cons (.same _) (.cons (.same _) (.cons (.same _) (.cons (.same _) (.cons (.same _) (.cons (.same _) (.cons (.same _) (.cons (.same _) (.cons (.dv (.nil 1 _)) (.cons (.same _) (.cons (.same _) (.cons (.same _) .nil)))))))))))))))) (.cons (.same _) .nil)))).trans (Ent.none_ rfl), ⟨_, h, 8, hm, .inl ⟨rfl, rfl⟩, rfl⟩, rfl⟩
    · cbv
      refine bc_split (fun h2 => ?_) (fun h2 => ?_)
      · cbv
        refine call_pure hP code_ref25_link (ok_ref25_link (s.e 0)) (by cbv; all_goals simp) ?_
        rintro r ⟨v, hv, rfl⟩
        cbv
        refine bc_split (fun h3 => ?_) (fun h3 => ?_)
        · cbv
          subst hQ hA hv
          have hm : s.meet 0 = (s, 9) := by
            rw [PSt.meet, if_neg (by simpa using h1), if_pos ⟨by simpa using h2, by simpa using h3⟩]
          exact ⟨.tup [.agg (rcells s h hd), .dv (.int .i64 9)], [], Ent.none_ rfl, ⟨_, h, 9, hm, .inl ⟨rfl, rfl⟩, rfl⟩, rfl⟩
        · cbv
          refine ⟨by subst hA; simp, fun k hk hk2 => ?_⟩
          obtain rfl : k = 0 := by subst hA; simpa using hk
          clear hk hk2
          cbv
          subst hQ hA hv
          have hm : s.meet 0 = ({ s with e := updE s.e 0 { s.e 0 with linked := true } }, 0) := by
            rw [PSt.meet, if_neg (by simpa using h1), if_neg (fun h => h.2 (by simpa using h3))]
          exact ⟨.tup [.agg (rcells { s with e := updE s.e 0 { s.e 0 with linked := true } } h hd), .dv (.int .i64 0)], [], Ent.none_ rfl, ⟨_, h, 0, hm, .inl ⟨rfl, rfl⟩, rfl⟩, rfl⟩
      · cbv
        refine ⟨by subst hA; simp, fun k hk hk2 => ?_⟩
        obtain rfl : k = 0 := by subst hA; simpa using hk
        clear hk hk2
        cbv
        subst hQ hA
        have hm : s.meet 0 = ({ s with e := updE s.e 0 { s.e 0 with linked := true } }, 0) := by
          rw [PSt.meet, if_neg (by simpa using h1), if_neg (fun h => by simp [h.1] at h2)]
        exact ⟨.tup [.agg (rcells { s with e := updE s.e 0 { s.e 0 with linked := true } } h hd), .dv (.int .i64 0)], [], Ent.none_ rfl, ⟨_, h, 0, hm, .inl ⟨rfl, rfl⟩, rfl⟩, rfl⟩

theorem ok_R_Meet1 (s : PSt) (h : Nat) (hd : Nat → DV) : CallOK (O := Ob) PR n_ref25_Meet [.agg (rcells s h hd), .dv (.int .i64 1)] [] fun r m =>
    (∃ s' h' v, s.meet 1 = (s', v) ∧ ((s'.hand = s.hand ∧ h' = h) ∨ (s'.hand = 0 ∧ h' = 0)) ∧ r = .tup [.agg (rcells s' h' hd), .dv (.int .i64 v)]) ∧ m = [] := by
  refine fn_walk2 mixed fn_ref25_Meet (Ent.refl _ _) fun A P hA hP Q hQ => ?_
  cbv
  refine ⟨by subst hA; simp, fun k hk hk2 => ?_⟩
  obtain rfl : k = 1 := by subst hA; simpa using hk
  clear hk hk2
  cbv
  refine ⟨by subst hA; simp [w64], fun l hl hl2 => ?_⟩
  obtain rfl : l = 0 := by subst hA; simpa [w64] using hl
  clear hl hl2
  cbv
  refine And.intro ?_ ?_
  all_goals
    refine bc_split (fun h1 => ?_) (fun h1 => ?_)
    · cbv
      refine call_pure hP code_ref25_link (ok_ref25_link { s.e 1 with known := (s.e 0).epoch, linked := false }) (by cbv; all_goals simp) ?_
      rintro r ⟨v, hv, rfl⟩
      cbv
      refine ⟨by subst hA; simp, fun k hk hk2 => ?_⟩
      obtain rfl : k = 1 := by subst hA; simpa using hk
      clear hk hk2
      cbv
      refine bc_false (by subst hA; simp) ?_
      cbv
      subst hQ hA hv
      have hm : s.meet 1 = ({ s with e := updE s.e 1 { s.e 1 with known := (s.e 0).epoch, linked := false, mark := PEnd.link { s.e 1 with known := (s.e 0).epoch, linked := false } }, got := 0, back := 0, hand := 0 }, 8) := by
        rw [PSt.meet, if_pos (by simpa using h1)]; rfl
      exact ⟨.tup [.agg (rcells { s with e := updE s.e 1 { s.e 1 with known := (s.e 0).epoch, linked := false, mark := PEnd.link { s.e 1 with known := (s.e 0).epoch, linked := false } }, got := 0, back := 0, hand := 0 } 0 hd), .dv (.int .i64 8)], [], (Ent.weak1 (.tup (.cons (.agg (.cons (.same _) (.cons (.same _) (.cons (.same _) (.cons (.same _) (.cons (.same _) (.cons (.same _) (.cons (.same _) (.cons (.same _) (.cons (.same _) (.cons (.same _) (.cons (.same _) (.cons (.same _) (.cons (.dv (.nil 1 _)) (.cons (.same _) (.cons (.same _) .nil)))))))))))))))) (.cons (.same _) .nil)))).trans (Ent.none_ rfl), ⟨_, 0, 8, hm, .inr ⟨rfl, rfl⟩, rfl⟩, rfl⟩
    · cbv
      refine bc_split (fun h2 => ?_) (fun h2 => ?_)
      · cbv
        refine call_pure hP code_ref25_link (ok_ref25_link (s.e 1)) (by cbv; all_goals simp) ?_
        rintro r ⟨v, hv, rfl⟩
        cbv
        refine bc_split (fun h3 => ?_) (fun h3 => ?_)
        · cbv
          subst hQ hA hv
          have hm : s.meet 1 = (s, 9) := by
            rw [PSt.meet, if_neg (by simpa using h1), if_pos ⟨by simpa using h2, by simpa using h3⟩]
          exact ⟨.tup [.agg (rcells s h hd), .dv (.int .i64 9)], [], Ent.none_ rfl, ⟨_, h, 9, hm, .inl ⟨rfl, rfl⟩, rfl⟩, rfl⟩
        · cbv
          refine ⟨by subst hA; simp, fun k hk hk2 => ?_⟩
          obtain rfl : k = 1 := by subst hA; simpa using hk
          clear hk hk2
          cbv
          subst hQ hA hv
          have hm : s.meet 1 = ({ s with e := updE s.e 1 { s.e 1 with linked := true } }, 0) := by
            rw [PSt.meet, if_neg (by simpa using h1), if_neg (fun h => h.2 (by simpa using h3))]
          exact ⟨.tup [.agg (rcells { s with e := updE s.e 1 { s.e 1 with linked := true } } h hd), .dv (.int .i64 0)], [], Ent.none_ rfl, ⟨_, h, 0, hm, .inl ⟨rfl, rfl⟩, rfl⟩, rfl⟩
      · cbv
        refine ⟨by subst hA; simp, fun k hk hk2 => ?_⟩
        obtain rfl : k = 1 := by subst hA; simpa using hk
        clear hk hk2
        cbv
        subst hQ hA
        have hm : s.meet 1 = ({ s with e := updE s.e 1 { s.e 1 with linked := true } }, 0) := by
          rw [PSt.meet, if_neg (by simpa using h1), if_neg (fun h => by simp [h.1] at h2)]
        exact ⟨.tup [.agg (rcells { s with e := updE s.e 1 { s.e 1 with linked := true } } h hd), .dv (.int .i64 0)], [], Ent.none_ rfl, ⟨_, h, 0, hm, .inl ⟨rfl, rfl⟩, rfl⟩, rfl⟩

end Go.Proofs.Ytophlodlencgiaa
