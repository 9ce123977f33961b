/-
  Walks: each call tells what the document says.
-/
import Derived.Test.YtophlodlencgiaaPlayD
import Derived.Test.YtophlodlencgiaaPipeT
import Derived.Test.YtophlodlencgiaaPipeR
namespace Go.Proofs.Ytophlodlencgiaa
open Go.V

theorem ok_Same_nil : CallOK (O := Ob) PR n_ref03_Same [.dv .nils, .dv .nils] [] fun r k => (∃ v, v = true ∧ r = .dv (.bool v)) ∧ k = [] := by
  refine CallOK.pre (Ent.weak (.cons (.dv (.nil 1 fun _ _ => .nils)) (.cons (.dv (.nil 1 fun _ _ => .nils)) .nil))) ((ok_Same 0 (fun _ _ => .nils) (fun _ => 0) (fun i hi => absurd hi (Nat.not_lt_zero i)) 0 (fun _ _ => .nils) (fun _ => 0) (fun i hi => absurd hi (Nat.not_lt_zero i))).ent fun r m => ?_)
  rintro ⟨⟨v, hv, rfl⟩, rfl⟩
  exact ⟨_, _, Ent.refl _ _, ⟨v, hv.trans (by rw [sameW_iff]; exact ⟨rfl, fun _ _ => rfl⟩), rfl⟩, rfl⟩

set_option maxHeartbeats 8000000 in
theorem ok_PipePlays (room : Int) (n : Nat) (G : Nat → Nat → DV) (o : Ops n G) : CallOK (O := Ob) PR n_law25_PipePlays [.dv (.int .i64 room), .dv (.seq n 3 G)] [] fun r _ => r = .dv (.bool true) := by
  refine fn_walk2 mixed fn_law25_PipePlays (Ent.refl _ _) fun A P hA hP Q hQ => ?_
  cbv
  refine call_pure hP code_law25_few (ok_few n G o 120) (by cbv; all_goals trivial) ?_
  rintro r ⟨v, hv, rfl⟩
  cbv
  refine bc_split (fun h1 => ?_) (fun h1 => ?_)
  · cbv
    refine call_pure hP code_law25_alive ok_alive (by cbv; all_goals trivial) ?_
    rintro r rfl
    cbv
    subst hQ hA
    exact ⟨.dv (.bool true), [], Ent.none_ rfl, rfl⟩
  have hfew := hv (by subst hA; simpa [std] using h1)
  have hn120 : n ≤ 120 := hfew.1
  clear h1 hv
  cbv
  refine call_aside hP (fun _ _ => Ent.refl _ _) [] code_pipe_New (ok_pipe_New room) rfl trivial (by cbv; all_goals trivial) ?_
  rintro r m h _
  rcases h with ⟨hr, rfl, rfl⟩ | ⟨hr1, hr2, rfl, rfl⟩
  · refine ⟨_, fun _ => Ent.refl _ _, ?_⟩
    cbv
    refine bc_split (fun h1 => ?_) (fun h1 => ?_)
    · cbv
      refine call_pure hP code_law25_alive ok_alive (by cbv; all_goals trivial) ?_
      rintro r rfl
      cbv
      subst hQ hA
      exact ⟨.dv (.bool true), [], Ent.none_ rfl, rfl⟩
    · cbv
      refine bc_true (by subst hA; simp at h1 ⊢; omega) ?_
      cbv
      refine call_pure hP code_law25_alive ok_alive (by cbv; all_goals trivial) ?_
      rintro r rfl
      cbv
      subst hQ hA
      exact ⟨.dv (.bool true), [], Ent.none_ rfl, rfl⟩
  generalize hs0 : PSt.new room = s0
  have hinv0 : s0.Inv 0 := hs0 ▸ PSt.Inv.new (by omega)
  have hin0 : s0.In 0 := hs0 ▸ PSt.In.new room 0
  have hoff0 : s0.Off := hs0 ▸ PSt.Off.new room
  have hcell0 : rblk s0 0 (fun _ => .nils) = rblk (PSt.new room) 0 (fun _ => .nils) := by rw [hs0]
  have hhand0 : s0.hand = 0 := by rw [← hs0]; rfl
  clear hs0
  refine ⟨_, fun _ => Ent.refl _ _, ?_⟩
  cbv
  refine bc_false (by subst hA; simp; omega) ?_
  cbv
  refine bc_false (by subst hA; simp; omega) ?_
  cbv
  intro hn
  cbv
  refine loop_at mixed hP hA (fun i : { i : Nat × PSt × Nat × (Nat → DV) // i.1 ≤ n ∧ i.2.1.Inv i.1 ∧ i.2.1.In i.1 ∧ i.2.1.Off ∧ i.2.2.1 = i.2.1.hand.toNat } => ⟨envOf 121 [(0, .dv (.int .i64 room)), (1, .dv (.seq n 3 G)), (5, .ptr 0 0), (6, .ptr 1 0), (36, .dv (.seq n 3 G)), (37, .dv (.int .i64 (A.ofN n))), (38, .dv (.int .i64 (A.ofN i.1.1)))], [.obj (pob i.1.2.1), rblk i.1.2.1 i.1.2.2.1 i.1.2.2.2]⟩) (fun i => n - i.1.1) ⟨(0, s0, 0, fun _ => .nils), Nat.zero_le _, hinv0, hin0, hoff0, by show 0 = s0.hand.toNat; rw [hhand0]; rfl⟩ ?_ ?_
  · show Ent _ _ (⟨envOf 121 [(0, .dv (.int .i64 room)), (1, .dv (.seq n 3 G)), (5, .ptr 0 0), (6, .ptr 1 0), (36, .dv (.seq n 3 G)), (37, .dv (.int .i64 (A.ofN n))), (38, .dv (.int .i64 (A.ofN 0)))], [.obj (pob s0), rblk s0 0 fun _ => .nils]⟩ : St Ob)
    rw [hcell0]
    refine (Ent.weakM 1 rfl (.same (.same (.one (.dv (.nil 1 fun i _ => (PSt.new room).put i)) (.one (.dv (.nil 1 fun _ _ => .nils)) (.same (.same .nil))))))).trans ?_
    refine Ent.trans (Ent.ren (s' := ⟨envOf 121 [(0, .dv (.int .i64 room)), (1, .dv (.seq n 3 G)), (5, .ptr 0 0), (6, .ptr 1 0), (36, .dv (.seq n 3 G)), (37, .dv (.int .i64 (A.ofN n))), (38, .dv (.int .i64 (0)))], [.obj (pob s0), rblk (PSt.new room) 0 fun _ => .nils]⟩) [0, 1] rfl rfl ⟨rfl, ⟨rfl, ⟨rfl, rfl, two_five rfl rfl rfl rfl rfl rfl rfl rfl rfl rfl⟩, rfl, rfl, rfl, rfl, trivial⟩, trivial⟩ ?_) (Ent.env ?_)
    · cbv
      all_goals trivial
    · cbv
      subst hA
      simp
  rintro ⟨⟨i, s, h, hd⟩, hi, hinv, hin, hoff, hh⟩
  have hi : i ≤ n := hi
  have hinv : s.Inv i := hinv
  have hin : s.In i := hin
  have hoff : s.Off := hoff
  have hh : h = s.hand.toNat := hh
  cbv
  refine bc_split (fun h2 => ?_) (fun h2 => ?_)
  · cbv
    have h3 : i < n := by subst hA; simpa using h2
    refine ⟨by subst hA; simp; omega, fun k hk hk2 => ?_⟩
    obtain rfl : k = i := by subst hA; simpa using hk
    cbv
    rw [o.h0 k hk2, o.h1 k hk2, o.h2 k hk2]
    have hg := o.h3 k hk2
    generalize hmk : o.m k = mk at *
    generalize o.kind k = kd at *
    generalize o.k k = kk at *
    generalize o.g k = gk at *
    generalize o.x k = xk at *
    cbv
    refine call_pure hP code_ref25_Do (okR_Do s (hin.ok (by omega)) hinv.hb h hh hd kd kk mk gk xk hg) (by cbv; all_goals simp) ?_
    rintro r ⟨s', h', hd', d, v, hst, hh', rfl⟩
    have hinv' : s'.Inv (k + 1) := by have := hinv.step (by omega) kd kk mk gk xk; rw [hst] at this; exact this
    have hin' : s'.In (k + 1) := by have := hin.step kd kk mk gk xk hg; rw [hst] at this; exact this
    have hoff' : s'.Off := by have := hoff.step kd kk mk gk xk; rw [hst] at this; exact this
    have hh0 : 0 ≤ s'.hand := hin'.hand.1
    have q25 : A.bin .add .i64 (A.ofN k) 1 = A.ofN (k + 1) := by subst hA; simp; rw [w64_in (by omega)]
    have hsame : ∃ dd : DV, d.getD .nils = dd ∧ CallOK (O := Ob) PR n_ref03_Same [.dv dd, .dv dd] [] fun r k => (∃ v, v = true ∧ r = .dv (.bool v)) ∧ k = [] := by
      rcases d with _ | d
      · exact ⟨_, rfl, ok_Same_nil⟩
      · obtain ⟨ml, g, x, rfl, hgx⟩ := PSt.step_words hin hst
        refine ⟨_, rfl, (ok_Same ml g x hgx ml g x hgx).ent fun r m => ?_⟩
        rintro ⟨⟨v, hv, rfl⟩, rfl⟩
        exact ⟨_, _, Ent.refl _ _, ⟨v, hv.trans (by rw [sameW_iff]; exact ⟨rfl, fun _ _ => rfl⟩), rfl⟩, rfl⟩
    obtain ⟨dd, hdd, hsame⟩ := hsame
    rw [hdd]
    cbv
    refine call_aside hP (fun _ _ => Ent.refl _ _) [0] code_law25_do (ok_do s (hin.ok (by omega)) kd kk mk gk xk hg) rfl ⟨rfl, trivial⟩ ⟨rfl, rfl, trivial⟩ ?_
    rintro r m ⟨d2, v2, s2, hst2, rfl, rfl⟩ _
    obtain ⟨rfl, hq⟩ := Prod.mk.inj (hst2.symm.trans hst)
    obtain ⟨rfl, rfl⟩ := Prod.mk.inj hq
    clear hq hst2
    rw [hdd]
    refine ⟨_, fun _ => Ent.refl _ _, ?_⟩
    cbv
    refine bc_false (by subst hA; simp) ?_
    cbv
    refine call_pure hP code_ref03_Same hsame (by cbv; all_goals simp) ?_
    rintro r ⟨b, rfl, rfl⟩
    cbv
    refine bc_false (by subst hA; simp [std]) ?_
    cbv
    intro _
    cbv
    refine call_aside hP (fun _ _ => Ent.refl _ _) [0] code_pipe_Pipe_Held (ok_pipe_Held s2) rfl ⟨rfl, trivial⟩ ⟨rfl, trivial⟩ ?_
    rintro r m ⟨rfl, rfl⟩ _
    refine ⟨_, fun _ => Ent.refl _ _, ?_⟩
    cbv
    refine bc_false (by subst hA; show std.cmp .neq s2.hand (std.ofN h') = false; simp; omega) ?_
    cbv
    refine call_aside hP (fun _ _ => Ent.refl _ _) [0] code_pipe_Pipe_Waits (ok_pipe_Waits s2 (hin'.ok (by omega))) rfl ⟨rfl, trivial⟩ ⟨rfl, trivial⟩ ?_
    rintro r m ⟨⟨w1, hw1, rfl⟩, rfl⟩ _
    refine ⟨_, fun _ => Ent.refl _ _, ?_⟩
    cbv
    refine call_pure hP code_ref25_Waits (okR_Waits s2 (hin'.ok (by omega)) h' hd') (by cbv; all_goals simp) ?_
    rintro r ⟨w2, hw2, rfl⟩
    cbv
    refine bc_false (by subst hA; simp; omega) ?_
    cbv
    refine loop_at mixed hP hA (fun j : { j : Nat // j ≤ 2 } => ⟨envOf 121 [(0, .dv (.int .i64 room)), (1, .dv (.seq n 3 G)), (5, .ptr 0 0), (6, .ptr 1 0), (36, .dv (.seq n 3 G)), (37, .dv (.int .i64 (A.ofN n))), (38, .dv (.int .i64 (A.ofN k))), (80, .dv (.int .i64 (A.ofN j.1)))], [.obj (pob s2), rblk s2 h' hd']⟩) (fun j => 2 - j.1) ⟨0, Nat.zero_le _⟩ ?_ ?_
    · refine Ent.trans (Ent.ren (s' := ⟨envOf 121 [(0, .dv (.int .i64 room)), (1, .dv (.seq n 3 G)), (5, .ptr 0 0), (6, .ptr 1 0), (36, .dv (.seq n 3 G)), (37, .dv (.int .i64 (A.ofN n))), (38, .dv (.int .i64 (A.ofN k))), (80, .dv (.int .i64 0))], [.obj (pob s2), rblk s2 h' hd']⟩) [0, 1] rfl rfl ⟨rfl, ⟨rfl, ⟨rfl, rfl, two_five rfl rfl rfl rfl rfl rfl rfl rfl rfl rfl⟩, rfl, rfl, rfl, rfl, trivial⟩, trivial⟩ ?_) (Ent.env ?_)
      · cbv
        all_goals trivial
      · cbv
        subst hA
        simp
    rintro ⟨j, hj⟩
    have hj : j ≤ 2 := hj
    cbv
    refine bc_split (fun h5 => ?_) (fun h5 => ?_)
    · cbv
      have h6 : j < 2 := by subst hA; simp at h5; omega
      have hup : s2.up (A.ofN j) = !(s2.e j).held := by
        subst hA
        rcases (by omega : j = 0 ∨ j = 1) with rfl | rfl <;> simp [PSt.up]
      have hln : s2.linked (A.ofN j) = (s2.e j).linked := by
        rw [PSt.linked, hup]
        subst hA
        rcases (by omega : j = 0 ∨ j = 1) with rfl | rfl
        · have := hoff'.1
          cases hx : (s2.e 0).held
          · simp
          · simp [this hx]
        · have := hoff'.2
          cases hx : (s2.e 1).held
          · simp
          · simp [this hx]
      refine ⟨by subst hA; simp; omega, fun l hl hl2 => ?_⟩
      obtain rfl : l = j := by subst hA; simpa using hl
      cbv
      refine call_aside hP (fun _ _ => Ent.refl _ _) [0] code_pipe_Pipe_Up (ok_pipe_Up s2 (A.ofN l)) rfl ⟨rfl, trivial⟩ ⟨rfl, rfl, trivial⟩ ?_
      rintro r m ⟨⟨u, hu, rfl⟩, rfl⟩ _
      refine ⟨_, fun _ => Ent.refl _ _, ?_⟩
      cbv
      have hu' : u = !(s2.e l).held := hu.trans hup
      refine bc_false (by subst hA; show std.beq u (s2.e l).held = false; rw [hu']; cases (s2.e l).held <;> rfl) ?_
      cbv
      refine ⟨by subst hA; simp; omega, fun q hq hq2 => ?_⟩
      obtain rfl : q = l := by subst hA; simpa using hq
      cbv
      refine call_aside hP (fun _ _ => Ent.refl _ _) [0] code_pipe_Pipe_Linked (ok_pipe_Linked s2 (A.ofN q)) rfl ⟨rfl, trivial⟩ ⟨rfl, rfl, trivial⟩ ?_
      rintro r m ⟨⟨u2, hu2, rfl⟩, rfl⟩ _
      refine ⟨_, fun _ => Ent.refl _ _, ?_⟩
      cbv
      have hu2' : u2 = (s2.e q).linked := hu2.trans hln
      refine bc_false (by subst hA; show std.bnot (std.beq u2 (s2.e q).linked) = false; rw [hu2']; cases (s2.e q).linked <;> rfl) ?_
      cbv
      have q80 : A.bin .add .i64 (A.ofN q) 1 = A.ofN (q + 1) := by subst hA; simp; rw [w64_in (by omega)]
      refine ⟨⟨q + 1, h6⟩, by simp only; omega, Ent.trans (Ent.ren (s' := ⟨envOf 121 [(0, .dv (.int .i64 room)), (1, .dv (.seq n 3 G)), (5, .ptr 0 0), (6, .ptr 1 0), (36, .dv (.seq n 3 G)), (37, .dv (.int .i64 (A.ofN n))), (38, .dv (.int .i64 (A.ofN k))), (80, .dv (.int .i64 (A.bin .add .i64 (A.ofN q) 1)))], [.obj (pob s2), rblk s2 h' hd']⟩) [0, 1] rfl rfl ⟨rfl, ⟨rfl, ⟨rfl, rfl, two_five rfl rfl rfl rfl rfl rfl rfl rfl rfl rfl⟩, rfl, rfl, rfl, rfl, trivial⟩, trivial⟩ (by cbv; all_goals trivial)) ?_⟩
      show Ent _ _ (⟨envOf 121 [(0, .dv (.int .i64 room)), (1, .dv (.seq n 3 G)), (5, .ptr 0 0), (6, .ptr 1 0), (36, .dv (.seq n 3 G)), (37, .dv (.int .i64 (A.ofN n))), (38, .dv (.int .i64 (A.ofN k))), (80, .dv (.int .i64 (A.ofN (q + 1))))], [.obj (pob s2), rblk s2 h' hd']⟩ : St Ob)
      rw [q80]
      exact Ent.refl _ _
    · cbv
      refine ⟨⟨(k + 1, s2, h', hd'), h3, hinv', hin', hoff', hh'⟩, by simp only; omega, Ent.trans (Ent.ren (s' := ⟨envOf 121 [(0, .dv (.int .i64 room)), (1, .dv (.seq n 3 G)), (5, .ptr 0 0), (6, .ptr 1 0), (36, .dv (.seq n 3 G)), (37, .dv (.int .i64 (A.ofN n))), (38, .dv (.int .i64 (A.bin .add .i64 (A.ofN k) 1)))], [.obj (pob s2), rblk s2 h' hd']⟩) [0, 1] rfl rfl ⟨rfl, ⟨rfl, ⟨rfl, rfl, two_five rfl rfl rfl rfl rfl rfl rfl rfl rfl rfl⟩, rfl, rfl, rfl, rfl, trivial⟩, trivial⟩ (by cbv; all_goals trivial)) ?_⟩
      show Ent _ _ (⟨envOf 121 [(0, .dv (.int .i64 room)), (1, .dv (.seq n 3 G)), (5, .ptr 0 0), (6, .ptr 1 0), (36, .dv (.seq n 3 G)), (37, .dv (.int .i64 (A.ofN n))), (38, .dv (.int .i64 (A.ofN (k + 1))))], [.obj (pob s2), rblk s2 h' hd']⟩ : St Ob)
      rw [q25]
      exact Ent.refl _ _
  · cbv
    refine call_aside hP (fun _ _ => Ent.refl _ _) [0] code_pipe_Pipe_Up (ok_pipe_Up s (-1)) rfl ⟨rfl, trivial⟩ ⟨rfl, rfl, trivial⟩ ?_
    rintro r m ⟨⟨u, hu, rfl⟩, rfl⟩ _
    obtain rfl : u = false := hu.trans (by simp [PSt.up])
    refine ⟨_, fun _ => Ent.refl _ _, ?_⟩
    cbv
    refine bc_true (by subst hA; simp [std]) ?_
    cbv
    refine call_aside hP (fun _ _ => Ent.refl _ _) [0] code_pipe_Pipe_Up (ok_pipe_Up s 2) rfl ⟨rfl, trivial⟩ ⟨rfl, rfl, trivial⟩ ?_
    rintro r m ⟨⟨u, hu, rfl⟩, rfl⟩ _
    obtain rfl : u = false := hu.trans (by simp [PSt.up])
    refine ⟨_, fun _ => Ent.refl _ _, ?_⟩
    cbv
    refine bc_true (by subst hA; simp [std]) ?_
    cbv
    refine call_aside hP (fun _ _ => Ent.refl _ _) [0] code_pipe_Pipe_Linked (ok_pipe_Linked s 2) rfl ⟨rfl, trivial⟩ ⟨rfl, rfl, trivial⟩ ?_
    rintro r m ⟨⟨u, hu, rfl⟩, rfl⟩ _
    obtain rfl : u = false := hu.trans (by simp [PSt.linked, PSt.up])
    refine ⟨_, fun _ => Ent.refl _ _, ?_⟩
    cbv
    refine bc_true (by subst hA; simp [std]) ?_
    cbv
    refine call_pure hP code_law25_alive ok_alive (by cbv; all_goals trivial) ?_
    rintro r rfl
    cbv
    subst hQ hA
    exact ⟨.dv (.bool true), [], Ent.none_ rfl, rfl⟩

end Go.Proofs.Ytophlodlencgiaa
