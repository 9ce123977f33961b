/-
  Walks: a call of the document's pipe.
-/
import Derived.Test.YtophlodlencgiaaPlayC
namespace Go.Proofs.Ytophlodlencgiaa
open Go.V

theorem nil_hand {c : List SV} {n : Nat} {s : PSt} {hd : Nat → DV} {v : SV} {mem : List (Chunk Ob)} (hc : WLes c (rcells s 0 hd)) : Ent n ⟨[.tup [.agg c, .dv .nils, v]], mem⟩ ⟨[.tup [.agg (rcells s 0 hd), .dv .nils, v]], mem⟩ :=
  Ent.weak1 (.tup (.cons (.agg hc) (.cons (.same _) (.cons (.same _) .nil))))

theorem hold_at0 {s : PSt} (h : (s.e 0).held = false) : s.hold 0 = ({ s with e := updE s.e 0 { s.e 0 with held := true, linked := false }, hand := s.hand }, 0) := by
  simp [PSt.hold, h]
theorem hold_at1 {s : PSt} (h : (s.e 1).held = false) : s.hold 1 = ({ s with e := updE s.e 1 { s.e 1 with held := true, linked := false }, hand := 0 }, 0) := by
  simp [PSt.hold, h]
theorem start_at0 {s : PSt} (h : (s.e 0).held = true) : s.start 0 = ({ s with e := updE s.e 0 { held := false, linked := false, epoch := ((s.e 0).epoch + 1) % 65536, known := -1, mark := (s.e 0).mark } }, 0) := by
  simp [PSt.start, h]
theorem start_at1 {s : PSt} (h : (s.e 1).held = true) : s.start 1 = ({ s with e := updE s.e 1 { held := false, linked := false, epoch := ((s.e 1).epoch + 1) % 65536, known := -1, mark := (s.e 1).mark } }, 0) := by
  simp [PSt.start, h]
theorem hold_held {s : PSt} {i : Int} (hi : i = 0 ∨ i = 1) (h : (s.e i.toNat).held = true) : s.hold i = (s, 11) := by
  rw [PSt.hold, if_neg (by omega), if_pos h]
theorem start_up {s : PSt} {i : Int} (hi : i = 0 ∨ i = 1) (h : (s.e i.toNat).held = false) : s.start i = (s, 13) := by
  rw [PSt.start, if_neg (by omega), if_pos h]

set_option maxHeartbeats 8000000 in
theorem okR_Do (s : PSt) (hs : s.Ok) (hb : (s.e 1).held = true → s.hand = 0) (h : Nat) (hh : h = s.hand.toNat) (hd : Nat → DV) (kind k : Int) (n : Nat) (g : Nat → Nat → DV) (x : Nat → Int) (hg : ∀ i, i < n → g i 0 = .int .i64 (x i)) :
    CallOK (O := Ob) PR n_ref25_Do [.agg (rcells s h hd), .agg [.dv (.int .i64 kind), .dv (.int .i64 k), .dv (.seq n 1 g)]] [] fun r m =>
      (∃ s' h' hd' d v, PSt.step s kind k n g x = (s', d, v) ∧ h' = s'.hand.toNat ∧ r = .tup [.agg (rcells s' h' hd'), .dv (d.getD .nils), .dv (.int .i64 v)]) ∧ m = [] := by
  refine fn_walk2 mixed fn_ref25_Do (Ent.refl _ _) fun A P hA hP Q hQ => ?_
  cbv
  refine bc_split (fun h1 => ?_) (fun h1 => ?_)
  · cbv
    obtain rfl : kind = 0 := by subst hA; simpa using h1
    refine call_pure hP code_ref25_Send (okR_Send s hs h hh hd n g x hg) (by cbv; all_goals simp) ?_
    rintro r ⟨s', h', v, hm, hh', rfl⟩
    cbv
    subst hQ hA
    refine ⟨.tup [.agg (rcells s' h' hd), .dv .nils, .dv (.int .i64 v)], [], Ent.none_ rfl, ⟨s', h', hd, none, v, ?_, hh', rfl⟩, rfl⟩
    rw [PSt.step, if_pos rfl, hm]
  have k0 : kind ≠ 0 := by subst hA; simpa using h1
  cbv
  refine bc_split (fun h2 => ?_) (fun h2 => ?_)
  · cbv
    obtain rfl : kind = 2 := by subst hA; simpa using h2
    refine call_pure hP code_ref25_Release (okR_Release s hs h hh hd k) (by cbv; all_goals simp) ?_
    rintro r ⟨s', h', hd', v, hm, hh', rfl⟩
    cbv
    subst hQ hA
    refine ⟨.tup [.agg (rcells s' h' hd'), .dv .nils, .dv (.int .i64 v)], [], Ent.none_ rfl, ⟨s', h', hd', none, v, ?_, hh', rfl⟩, rfl⟩
    rw [PSt.step, if_neg (by decide), if_pos rfl, hm]
  have k2 : kind ≠ 2 := by subst hA; simpa using h2
  cbv
  refine bc_split (fun h3 => ?_) (fun h3 => ?_)
  · cbv
    obtain rfl : kind = 3 := by subst hA; simpa using h3
    refine bc_true (by subst hA; simp) ?_
    cbv
    have hst : PSt.step s 3 k n g x = ((s.hold k).1, none, (s.hold k).2) := by rw [PSt.step, if_neg (by decide), if_neg (by decide), if_pos rfl]
    refine bc_split (fun f1 => ?_) (fun f1 => ?_)
    · cbv
      have f1' : k < 0 := by subst hA; simpa using f1
      subst hQ hA
      refine ⟨.tup [.agg (rcells s h hd), .dv .nils, .dv (.int .i64 2)], [], Ent.none_ rfl, ⟨s, h, hd, none, 2, ?_, hh, rfl⟩, rfl⟩
      rw [hst, PSt.hold, if_pos (by omega)]
    have f1' : ¬ k < 0 := by subst hA; simpa using f1
    cbv
    refine bc_split (fun f2 => ?_) (fun f2 => ?_)
    · cbv
      have f2' : 1 < k := by subst hA; simpa using f2
      subst hQ hA
      refine ⟨.tup [.agg (rcells s h hd), .dv .nils, .dv (.int .i64 2)], [], Ent.none_ rfl, ⟨s, h, hd, none, 2, ?_, hh, rfl⟩, rfl⟩
      rw [hst, PSt.hold, if_pos (by omega)]
    have f2' : ¬ 1 < k := by subst hA; simpa using f2
    rcases (by omega : k = 0 ∨ k = 1) with rfl | rfl
    · cbv
      refine ⟨by subst hA; simp, fun k hk hk2 => ?_⟩
      obtain rfl : k = 0 := by subst hA; simpa using hk
      clear hk hk2
      cbv
      refine bc_true (by subst hA; simp) ?_
      cbv
      refine bc_split (fun f3 => ?_) (fun f3 => ?_)
      · cbv
        subst hQ hA
        refine ⟨.tup [.agg (rcells s h hd), .dv .nils, .dv (.int .i64 11)], [], Ent.none_ rfl, ⟨s, h, hd, none, 11, ?_, hh, rfl⟩, rfl⟩
        rw [hst, hold_held (by omega) f3]
      have f3' : (s.e 0).held = false := f3
      cbv
      refine bc_false (by subst hA; simp) ?_
      cbv
      refine bc_false (by subst hA; simp) ?_
      cbv
      refine ⟨by subst hA; simp, fun k hk hk2 => ?_⟩
      obtain rfl : k = 0 := by subst hA; simpa using hk
      clear hk hk2
      cbv
      refine bc_false (by subst hA; simp) ?_
      cbv
      subst hQ hA
      exact ⟨.tup [.agg (rcells { s with e := updE s.e 0 { s.e 0 with held := true, linked := false }, hand := s.hand } h hd), .dv .nils, .dv (.int .i64 0)], [], Ent.none_ rfl, ⟨{ s with e := updE s.e 0 { s.e 0 with held := true, linked := false }, hand := s.hand }, h, hd, none, 0, by rw [hst, hold_at0 f3'], hh, rfl⟩, rfl⟩
    · cbv
      refine ⟨by subst hA; simp, fun k hk hk2 => ?_⟩
      obtain rfl : k = 1 := by subst hA; simpa using hk
      clear hk hk2
      cbv
      refine bc_true (by subst hA; simp) ?_
      cbv
      refine bc_split (fun f3 => ?_) (fun f3 => ?_)
      · cbv
        subst hQ hA
        refine ⟨.tup [.agg (rcells s h hd), .dv .nils, .dv (.int .i64 11)], [], Ent.none_ rfl, ⟨s, h, hd, none, 11, ?_, hh, rfl⟩, rfl⟩
        rw [hst, hold_held (by omega) f3]
      have f3' : (s.e 1).held = false := f3
      cbv
      refine bc_false (by subst hA; simp) ?_
      cbv
      refine bc_false (by subst hA; simp) ?_
      cbv
      refine ⟨by subst hA; simp, fun k hk hk2 => ?_⟩
      obtain rfl : k = 1 := by subst hA; simpa using hk
      clear hk hk2
      cbv
      refine bc_true (by subst hA; simp) ?_
      cbv
      subst hQ hA
      exact ⟨.tup [.agg (rcells { s with e := updE s.e 1 { s.e 1 with held := true, linked := false }, hand := 0 } 0 hd), .dv .nils, .dv (.int .i64 0)], [], Ent.trans (nil_hand (s := { s with e := updE s.e 1 { s.e 1 with held := true, linked := false }, hand := 0 }) (hd := hd) (v := .dv (.int .i64 0)) (.cons (.same _) (.cons (.same _) (.cons (.same _) (.cons (.same _) (.cons (.same _) (.cons (.same _) (.cons (.same _) (.cons (.same _) (.cons (.same _) (.cons (.same _) (.cons (.same _) (.cons (.same _) (.cons (.dv (.nil 1 _)) (.cons (.same _) (.cons (.same _) .nil)))))))))))))))) (Ent.none_ rfl), ⟨{ s with e := updE s.e 1 { s.e 1 with held := true, linked := false }, hand := 0 }, 0, hd, none, 0, by rw [hst, hold_at1 f3'], rfl, rfl⟩, rfl⟩
  have k3 : kind ≠ 3 := by subst hA; simpa using h3
  cbv
  refine bc_split (fun h4 => ?_) (fun h4 => ?_)
  · cbv
    obtain rfl : kind = 4 := by subst hA; simpa using h4
    have hst : PSt.step s 4 k n g x = ((s.start k).1, none, (s.start k).2) := by rw [PSt.step, if_neg (by decide), if_neg (by decide), if_neg (by decide), if_pos rfl]
    refine bc_split (fun f1 => ?_) (fun f1 => ?_)
    · cbv
      have f1' : k < 0 := by subst hA; simpa using f1
      subst hQ hA
      refine ⟨.tup [.agg (rcells s h hd), .dv .nils, .dv (.int .i64 2)], [], Ent.none_ rfl, ⟨s, h, hd, none, 2, ?_, hh, rfl⟩, rfl⟩
      rw [hst, PSt.start, if_pos (by omega)]
    have f1' : ¬ k < 0 := by subst hA; simpa using f1
    cbv
    refine bc_split (fun f2 => ?_) (fun f2 => ?_)
    · cbv
      have f2' : 1 < k := by subst hA; simpa using f2
      subst hQ hA
      refine ⟨.tup [.agg (rcells s h hd), .dv .nils, .dv (.int .i64 2)], [], Ent.none_ rfl, ⟨s, h, hd, none, 2, ?_, hh, rfl⟩, rfl⟩
      rw [hst, PSt.start, if_pos (by omega)]
    have f2' : ¬ 1 < k := by subst hA; simpa using f2
    rcases (by omega : k = 0 ∨ k = 1) with rfl | rfl
    · cbv
      refine ⟨by subst hA; simp, fun k hk hk2 => ?_⟩
      obtain rfl : k = 0 := by subst hA; simpa using hk
      clear hk hk2
      cbv
      refine bc_false (by subst hA; simp) ?_
      cbv
      refine bc_true (by subst hA; simp) ?_
      cbv
      refine bc_split (fun f3 => ?_) (fun f3 => ?_)
      · cbv
        have f3' : (s.e 0).held = false := by subst hA; simpa [std] using f3
        subst hQ hA
        refine ⟨.tup [.agg (rcells s h hd), .dv .nils, .dv (.int .i64 13)], [], Ent.none_ rfl, ⟨s, h, hd, none, 13, ?_, hh, rfl⟩, rfl⟩
        rw [hst, start_up (by omega) f3']
      have f3' : (s.e 0).held = true := by subst hA; simpa [std] using f3
      cbv
      refine bc_true (by subst hA; simp) ?_
      cbv
      refine call_pure hP code_ref01_Add (ok_ref01_Add (s.e 0).epoch 1) (by cbv; all_goals simp) ?_
      rintro r ⟨ep, hep, rfl⟩
      cbv
      refine ⟨by subst hA; simp, fun k hk hk2 => ?_⟩
      obtain rfl : k = 0 := by subst hA; simpa using hk
      clear hk hk2
      cbv
      refine bc_false (by subst hA; simp) ?_
      cbv
      subst hQ hA
      exact ⟨.tup [.agg (rcells { s with e := updE s.e 0 { held := false, linked := false, epoch := ep, known := -1, mark := (s.e 0).mark } } h hd), .dv .nils, .dv (.int .i64 0)], [], Ent.none_ rfl, ⟨{ s with e := updE s.e 0 { held := false, linked := false, epoch := ep, known := -1, mark := (s.e 0).mark } }, h, hd, none, 0, by rw [hst, start_at0 f3', ← hep], hh, rfl⟩, rfl⟩
    · cbv
      refine ⟨by subst hA; simp, fun k hk hk2 => ?_⟩
      obtain rfl : k = 1 := by subst hA; simpa using hk
      clear hk hk2
      cbv
      refine bc_false (by subst hA; simp) ?_
      cbv
      refine bc_true (by subst hA; simp) ?_
      cbv
      refine bc_split (fun f3 => ?_) (fun f3 => ?_)
      · cbv
        have f3' : (s.e 1).held = false := by subst hA; simpa [std] using f3
        subst hQ hA
        refine ⟨.tup [.agg (rcells s h hd), .dv .nils, .dv (.int .i64 13)], [], Ent.none_ rfl, ⟨s, h, hd, none, 13, ?_, hh, rfl⟩, rfl⟩
        rw [hst, start_up (by omega) f3']
      have f3' : (s.e 1).held = true := by subst hA; simpa [std] using f3
      cbv
      refine bc_true (by subst hA; simp) ?_
      cbv
      refine call_pure hP code_ref01_Add (ok_ref01_Add (s.e 1).epoch 1) (by cbv; all_goals simp) ?_
      rintro r ⟨ep, hep, rfl⟩
      cbv
      refine ⟨by subst hA; simp, fun k hk hk2 => ?_⟩
      obtain rfl : k = 1 := by subst hA; simpa using hk
      clear hk hk2
      cbv
      refine bc_true (by subst hA; simp) ?_
      cbv
      subst hQ hA
      exact ⟨.tup [.agg (rcells { s with e := updE s.e 1 { held := false, linked := false, epoch := ep, known := -1, mark := (s.e 1).mark } } 0 hd), .dv .nils, .dv (.int .i64 0)], [], Ent.trans (nil_hand (s := { s with e := updE s.e 1 { held := false, linked := false, epoch := ep, known := -1, mark := (s.e 1).mark } }) (hd := hd) (v := .dv (.int .i64 0)) (.cons (.same _) (.cons (.same _) (.cons (.same _) (.cons (.same _) (.cons (.same _) (.cons (.same _) (.cons (.same _) (.cons (.same _) (.cons (.same _) (.cons (.same _) (.cons (.same _) (.cons (.same _) (.cons (.dv (.nil 1 _)) (.cons (.same _) (.cons (.same _) .nil)))))))))))))))) (Ent.none_ rfl), ⟨{ s with e := updE s.e 1 { held := false, linked := false, epoch := ep, known := -1, mark := (s.e 1).mark } }, 0, hd, none, 0, by rw [hst, start_at1 f3', ← hep], by show 0 = s.hand.toNat; rw [hb f3']; rfl, rfl⟩, rfl⟩
  have k4 : kind ≠ 4 := by subst hA; simpa using h4
  cbv
  refine call_pure hP code_ref25_Recv (okR_Recv s hs h hh hd) (by cbv; all_goals simp) ?_
  rintro r ⟨s', h', hd', d, v, hm, hh', rfl⟩
  generalize hdd : d.getD .nils = dd
  cbv
  subst hQ hA
  refine ⟨.tup [.agg (rcells s' h' hd'), .dv dd, .dv (.int .i64 v)], [], Ent.none_ rfl, ⟨s', h', hd', d, v, ?_, hh', by rw [hdd]⟩, rfl⟩
  rw [PSt.step, if_neg k0, if_neg k2, if_neg k3, if_neg k4, hm]

end Go.Proofs.Ytophlodlencgiaa
