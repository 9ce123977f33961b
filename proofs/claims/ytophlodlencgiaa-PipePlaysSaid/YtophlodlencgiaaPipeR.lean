/-
  Walks: a call of the program's pipe; few calls.
-/
import Derived.Test.YtophlodlencgiaaPipeN
import Derived.Test.YtophlodlencgiaaPipeO
namespace Go.Proofs.Ytophlodlencgiaa
open Go.V

/-- The calls of a list: each one's kind, place and words. -/
structure Ops (n : Nat) (G : Nat → Nat → DV) where
  kind : Nat → Int
  k : Nat → Int
  m : Nat → Nat
  g : Nat → Nat → Nat → DV
  x : Nat → Nat → Int
  h0 : ∀ i, i < n → G i 0 = .int .i64 (kind i)
  h1 : ∀ i, i < n → G i 1 = .int .i64 (k i)
  h2 : ∀ i, i < n → G i 2 = .seq (m i) 1 (g i)
  h3 : ∀ i, i < n → ∀ j, j < m i → g i j 0 = .int .i64 (x i j)

theorem ok_do (s : PSt) (hs : s.Ok) (kind k : Int) (n : Nat) (g : Nat → Nat → DV) (x : Nat → Int) (hg : ∀ i, i < n → g i 0 = .int .i64 (x i)) :
    CallOK PR n_law25_do [.ptr 0 0, .agg [.dv (.int .i64 kind), .dv (.int .i64 k), .dv (.seq n 1 g)]] [.obj (pob s)] fun r m =>
      ∃ d v s', PSt.step s kind k n g x = (s', d, v) ∧ r = .tup [.dv (d.getD .nils), .dv (.int .i64 v)] ∧ m = [.obj (pob s')] := by
  refine fn_walk2 mixed fn_law25_do (Ent.refl _ _) fun A P hA hP Q hQ => ?_
  cbv
  refine bc_split (fun h1 => ?_) (fun h1 => ?_)
  · cbv
    have e1 : kind = 0 := by subst hA; simpa using h1
    refine call_at hP [0] code_pipe_Pipe_Send (ok_pipe_Send s hs n g x hg) rfl ⟨rfl, trivial⟩ ⟨rfl, rfl, trivial⟩ ?_
    rintro r m ⟨v, s', h, rfl, rfl⟩ _
    cbv
    subst hQ hA
    refine ⟨.tup [.dv .nils, .dv (.int .i64 v)], [.obj (pob s')], Ent.ren [0] rfl rfl ⟨rfl, trivial⟩ ⟨rfl, trivial⟩, none, v, s', ?_, rfl, rfl⟩
    rw [PSt.step, if_pos e1, h]
  · cbv
    have e1 : ¬ kind = 0 := by subst hA; simpa using h1
    refine bc_split (fun h2 => ?_) (fun h2 => ?_)
    · cbv
      have e2 : kind = 2 := by subst hA; simpa using h2
      refine call_at hP [0] code_pipe_Pipe_Release (ok_pipe_Release s hs k) rfl ⟨rfl, trivial⟩ ⟨rfl, rfl, trivial⟩ ?_
      rintro r m ⟨v, s', h, rfl, rfl⟩ _
      cbv
      subst hQ hA
      refine ⟨.tup [.dv .nils, .dv (.int .i64 v)], [.obj (pob s')], Ent.ren [0] rfl rfl ⟨rfl, trivial⟩ ⟨rfl, trivial⟩, none, v, s', ?_, rfl, rfl⟩
      rw [PSt.step, if_neg e1, if_pos e2, ← h]
    · cbv
      have e2 : ¬ kind = 2 := by subst hA; simpa using h2
      refine bc_split (fun h3 => ?_) (fun h3 => ?_)
      · cbv
        have e3 : kind = 3 := by subst hA; simpa using h3
        refine call_at hP [0] code_pipe_Pipe_Hold (ok_pipe_Hold s k) rfl ⟨rfl, trivial⟩ ⟨rfl, rfl, trivial⟩ ?_
        rintro r m ⟨v, s', h, rfl, rfl⟩ _
        cbv
        subst hQ hA
        refine ⟨.tup [.dv .nils, .dv (.int .i64 v)], [.obj (pob s')], Ent.ren [0] rfl rfl ⟨rfl, trivial⟩ ⟨rfl, trivial⟩, none, v, s', ?_, rfl, rfl⟩
        rw [PSt.step, if_neg e1, if_neg e2, if_pos e3, ← h]
      · cbv
        have e3 : ¬ kind = 3 := by subst hA; simpa using h3
        refine bc_split (fun h4 => ?_) (fun h4 => ?_)
        · cbv
          have e4 : kind = 4 := by subst hA; simpa using h4
          refine call_at hP [0] code_pipe_Pipe_Start (ok_pipe_Start s k) rfl ⟨rfl, trivial⟩ ⟨rfl, rfl, trivial⟩ ?_
          rintro r m ⟨v, s', h, rfl, rfl⟩ _
          cbv
          subst hQ hA
          refine ⟨.tup [.dv .nils, .dv (.int .i64 v)], [.obj (pob s')], Ent.ren [0] rfl rfl ⟨rfl, trivial⟩ ⟨rfl, trivial⟩, none, v, s', ?_, rfl, rfl⟩
          rw [PSt.step, if_neg e1, if_neg e2, if_neg e3, if_pos e4, ← h]
        · cbv
          have e4 : ¬ kind = 4 := by subst hA; simpa using h4
          refine call_at hP [0] code_pipe_Pipe_Recv (ok_pipe_Recv s hs) rfl ⟨rfl, trivial⟩ ⟨rfl, trivial⟩ ?_
          rintro r m ⟨d, v, s', h, rfl, rfl⟩ _
          generalize hd : d.getD .nils = dd
          cbv
          subst hQ hA
          refine ⟨.tup [.dv dd, .dv (.int .i64 v)], [.obj (pob s')], Ent.ren [0] rfl rfl ⟨rfl, trivial⟩ ⟨rfl, trivial⟩, d, v, s', ?_, by rw [hd], rfl⟩
          rw [PSt.step, if_neg e1, if_neg e2, if_neg e3, if_neg e4, h]

theorem ok_few (n : Nat) (G : Nat → Nat → DV) (o : Ops n G) (most : Int) : CallOK (O := Ob) PR n_law25_few [.dv (.seq n 3 G), .dv (.int .i64 most)] [] fun r m =>
    (∃ v, (v = true → n ≤ most.toNat ∧ ∀ i, i < n → o.m i ≤ 50) ∧ r = .dv (.bool v)) ∧ m = [] := by
  refine CallOK.drop (fn_walk mixed fn_law25_few fun A P hA hP Q hQ => ?_)
  cbv
  intro hn
  cbv
  refine bc_split (fun h1 => ?_) (fun h1 => ?_)
  · cbv
    subst hQ hA
    exact ⟨.dv (.bool false), rfl, false, ⟨fun h => (Bool.false_ne_true h).elim, rfl⟩⟩
  · cbv
    intro _
    cbv
    have hm : n ≤ most.toNat := by subst hA; simp at h1; omega
    refine loop_at mixed hP hA (fun i : { i : Nat // i ≤ n ∧ ∀ j, j < i → o.m j ≤ 50 } => ⟨envOf 22 [(0, .dv (.seq n 3 G)), (11, .dv (.seq n 3 G)), (12, .dv (.int .i64 (A.ofN n))), (13, .dv (.int .i64 (A.ofN i.1)))], []⟩) (fun i => n - i.1) ⟨0, Nat.zero_le _, fun j hj => absurd hj (Nat.not_lt_zero j)⟩ (Ent.env (by cbv; subst hA; simp)) ?_
    rintro ⟨i, hi, he⟩
    cbv
    refine bc_split (fun h2 => ?_) (fun h2 => ?_)
    · cbv
      have h3 : i < n := by subst hA; simpa using h2
      refine ⟨by subst hA; simp; omega, fun k hk hk2 => ?_⟩
      obtain rfl : k = i := by subst hA; simpa using hk
      cbv
      rw [o.h0 k hk2, o.h1 k hk2, o.h2 k hk2]
      generalize hmk : o.m k = mk at *
      cbv
      intro hmn
      cbv
      refine bc_split (fun h4 => ?_) (fun h4 => ?_)
      · cbv
        subst hQ hA
        exact ⟨.dv (.bool false), rfl, false, ⟨fun h => (Bool.false_ne_true h).elim, rfl⟩⟩
      · cbv
        refine ⟨⟨k + 1, h3, below_succ he ?_⟩, by simp only; omega, ?_⟩
        · rw [hmk]; subst hA; simp at h4; omega
        · refine Ent.trans (Ent.ren (s' := ⟨envOf 22 [(0, .dv (.seq n 3 G)), (11, .dv (.seq n 3 G)), (12, .dv (.int .i64 (A.ofN n))), (13, .dv (.int .i64 (A.bin .add .i64 (A.ofN k) 1)))], []⟩) [] rfl rfl (by exact trivial) (by cbv; all_goals trivial)) (Ent.env ?_)
          cbv
          subst hA
          simp
          have : n ≤ 17592186044416 := hn
          rw [w64_in (by omega)]
    · cbv
      have h3 : i = n := by subst hA; simp at h2; omega
      subst hQ hA
      exact ⟨.dv (.bool true), rfl, true, ⟨fun _ => ⟨hm, fun j hj => he j (by omega)⟩, rfl⟩⟩

end Go.Proofs.Ytophlodlencgiaa
