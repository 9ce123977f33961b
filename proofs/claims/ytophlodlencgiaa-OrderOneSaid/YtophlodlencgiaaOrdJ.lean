/-
  Walks: the document's answers on calls and lists of calls.
-/
import Derived.Test.YtophlodlencgiaaOrdI
namespace Go.Proofs.Ytophlodlencgiaa
open Go.V

theorem okR_same (n : Nat) (g : Nat → Nat → DV) (x : Nat → Int) (hg : ∀ i, i < n → g i 0 = .int .i64 (x i)) (m : Nat) (h : Nat → Nat → DV) (y : Nat → Int) (hh : ∀ i, i < m → h i 0 = .int .i64 (y i)) :
    CallOK (O := Ob) PR n_ref21_same [.dv (.seq n 1 g), .dv (.seq m 1 h)] [] fun r k => (∃ v, v = sameW n x m y ∧ r = .dv (.bool v)) ∧ k = [] := by
  refine fn_walk mixed fn_ref21_same fun A P hA hP Q hQ => ?_
  cbv
  intro hn
  cbv
  intro hm
  cbv
  refine bc_split (fun h1 => ?_) (fun h1 => ?_)
  · cbv
    subst hQ hA
    refine ⟨⟨_, ?_, rfl⟩, rfl⟩
    symm
    rw [← Bool.not_eq_true, sameW_iff]
    rintro ⟨rfl, _⟩
    simp at h1
  · cbv
    obtain rfl : n = m := by subst hA; simp at h1; omega
    refine loop_at mixed hP hA (fun i : { i : Nat // i ≤ n ∧ ∀ j, j < i → x j = y j } => ⟨envOf 26 [(0, .dv (.seq n 1 g)), (1, .dv (.seq n 1 h)), (5, .dv (.int .i64 (A.ofN i.1)))], []⟩) (fun i => n - i.1) ⟨0, Nat.zero_le _, fun j hj => absurd hj (Nat.not_lt_zero j)⟩ (Ent.env (by cbv; subst hA; simp)) ?_
    rintro ⟨i, hi, he⟩
    cbv
    intro _
    cbv
    refine bc_split (fun h1 => ?_) (fun h1 => ?_)
    · cbv
      have h2 : i < n := by subst hA; simpa using h1
      refine ⟨by subst hA; simp; omega, fun k hk hk2 => ?_⟩
      obtain rfl : k = i := by subst hA; simpa using hk
      cbv
      rw [hg k hk2]
      cbv
      refine ⟨by subst hA; simp; omega, fun l hl hl2 => ?_⟩
      obtain rfl : l = k := by subst hA; simpa using hl
      cbv
      rw [hh l hl2]
      cbv
      refine bc_split (fun h3 => ?_) (fun h3 => ?_)
      · cbv
        subst hQ hA
        refine ⟨⟨_, ?_, rfl⟩, rfl⟩
        symm
        rw [← Bool.not_eq_true, sameW_iff]
        rintro ⟨_, h4⟩
        have := h4 l h2
        simp [this] at h3
      · cbv
        refine ⟨⟨l + 1, h2, ?_⟩, by simp only; omega, Ent.env ?_⟩
        · exact below_succ he (by subst hA; simpa using h3)
        · cbv
          subst hA
          simp
          have : n ≤ 17592186044416 := hn
          rw [w64_in (by omega)]
    · cbv
      have h2 : i = n := by subst hA; simp at h1; omega
      subst hQ hA
      refine ⟨⟨_, ?_, rfl⟩, rfl⟩
      symm
      rw [sameW_iff]
      exact ⟨rfl, fun j hj => he j (by omega)⟩


theorem okR_left {n : Nat} {G : Nat → Nat → DV} (S : Ents n G) : CallOK (O := Ob) PR n_ref21_left [.dv (.seq n 8 G)] [] fun r m => (∃ v, (v = true ↔ ∃ i, i < n ∧ S.en i ≠ 0) ∧ r = .dv (.bool v)) ∧ m = [] := by
  refine CallOK.drop (fn_walk mixed fn_ref21_left fun A P hA hP Q hQ => ?_)
  have eQ : ∀ (v : Bool) m, (v = true ↔ ∃ i, i < n ∧ S.en i ≠ 0) → Q (.dv (.bool v)) m := fun v m hv => by
    subst hQ; exact ⟨.dv (.bool v), rfl, v, hv, rfl⟩
  clear hQ
  cbv
  refine loop_nat mixed hP hA n (fun i => ∀ j, j < i → ¬ S.en j ≠ 0) (fun i => ⟨envOf 16 [(0, .dv (.seq n 8 G)), (3, .dv (.int .i64 (A.ofN i)))], []⟩)
    (fun j hj => absurd hj (Nat.not_lt_zero j)) (Ent.env (by cbv; subst hA; simp)) fun J i hJ hi he => ?_
  have yes : ∀ m, i < n → S.en i ≠ 0 → Q (.dv (.bool true)) m := fun m h1 h2 => eQ true m ⟨fun _ => ⟨i, h1, h2⟩, fun _ => rfl⟩
  have no : i = n → ∀ m, Q (.dv (.bool false)) m := fun h m => eQ false m ⟨fun h => Bool.noConfusion h, fun ⟨j, h1, h2⟩ => (he j (by omega) h2).elim⟩
  have next : ¬ S.en i ≠ 0 → ∀ j, j < i + 1 → ¬ S.en j ≠ 0 := fun h => below_succ he h
  have hstep : n ≤ maxN → i < n → ∀ e, ELe e (envOf 16 [(0, .dv (.seq n 8 G)), (3, .dv (.int .i64 (A.bin .add .i64 (A.ofN i) 1)))]) → Ent 0 (⟨e, []⟩ : St Ob) J := by
    intro hn h e hl
    subst hJ
    have q7 : A.bin .add .i64 (A.ofN i) 1 = A.ofN (i + 1) := by subst hA; simp; have : n ≤ 17592186044416 := hn; rw [w64_in (by omega)]
    rw [← q7]
    exact Ent.env hl
  clear eQ he hJ
  have l1 : A.cmp .lss (A.ofN i) (A.ofN n) = true → i < n := by subst hA; simp
  have l2 : A.cmp .lss (A.ofN i) (A.ofN n) = false → i = n := by subst hA; simp; omega
  have hin : i < n → A.inb (A.ofN i) n ∧ i = A.toN (A.ofN i) := by intro h; subst hA; simp; omega
  cbv
  intro hn
  cbv
  refine bc_split (fun h1 => ?_) (fun h1 => ?_)
  · have f1 := l1 h1
    cbv
    refine ⟨(hin f1).1, fun k hk hk2 => ?_⟩
    obtain rfl : i = k := (hin f1).2.trans hk.symm
    clear hk
    cbv
    rw [S.h4 i f1]
    cbv
    refine bc_split (fun h2 => ?_) (fun h2 => ?_)
    · have f2 : S.en i ≠ 0 := by subst hA; simpa using h2
      cbv
      exact yes _ f1 f2
    · have f2 : ¬ S.en i ≠ 0 := by subst hA; simpa using h2
      have f3 := next f2
      cbv
      exact ⟨f1, f3, hstep hn f1 _ (by cbv; all_goals trivial)⟩
  · cbv
    exact no (l2 h1) _

theorem okR_late {n : Nat} {G : Nat → Nat → DV} (S : Ents n G) (a0 a1 a2 a3 a4 a5 : Int) (m : Nat) (g : Nat → Nat → DV) (a7 : Int) :
    CallOK (O := Ob) PR n_ref21_late [.dv (.seq n 8 G), .agg [.dv (.int .i64 a0), .dv (.int .i64 a1), .dv (.int .i64 a2), .dv (.int .i64 a3), .dv (.int .i64 a4), .dv (.int .i64 a5), .dv (.seq m 1 g), .dv (.int .i64 a7)]] []
      fun r k => (∃ v, (v = true ↔ S.late 0 a3) ∧ r = .dv (.bool v)) ∧ k = [] := by
  refine CallOK.drop (fn_walk mixed fn_ref21_late fun A P hA hP Q hQ => ?_)
  have eQ : ∀ (v : Bool) m, (v = true ↔ S.late 0 a3) → Q (.dv (.bool v)) m := fun v m hv => by
    subst hQ; exact ⟨.dv (.bool v), rfl, v, hv, rfl⟩
  clear hQ
  cbv
  refine loop_nat mixed hP hA n (fun i => ∀ j, j < i → ¬ (S.en j ≠ 0 ∧ S.en j < a3)) (fun i => ⟨envOf 28 [(0, .dv (.seq n 8 G)), (3, .ptr 0 0), (5, .dv (.int .i64 (A.ofN i)))], [.blk (ebox a0 a1 a2 a3 a4 a5 m g a7)]⟩)
    (fun j hj => absurd hj (Nat.not_lt_zero j)) (Ent.env (by cbv; subst hA; simp)) fun J i hJ hi he => ?_
  have yes : ∀ m, i < n → S.en i ≠ 0 → S.en i < a3 → Q (.dv (.bool true)) m := fun m h1 h2 h3 => eQ true m ⟨fun _ => ⟨i, Nat.zero_le _, h1, h2, h3⟩, fun _ => rfl⟩
  have no : i = n → ∀ m, Q (.dv (.bool false)) m := fun h m => eQ false m ⟨fun h => Bool.noConfusion h, fun ⟨j, _, h1, h2⟩ => (he j (by omega) h2).elim⟩
  have next : ¬ (S.en i ≠ 0 ∧ S.en i < a3) → ∀ j, j < i + 1 → ¬ (S.en j ≠ 0 ∧ S.en j < a3) := fun h => below_succ he h
  have hstep : n ≤ maxN → i < n → ∀ e, ELe e (envOf 28 [(0, .dv (.seq n 8 G)), (3, .ptr 0 0), (5, .dv (.int .i64 (A.bin .add .i64 (A.ofN i) 1)))]) → Ent 0 (⟨e, [.blk (ebox a0 a1 a2 a3 a4 a5 m g a7)]⟩ : St Ob) J := by
    intro hn h e hl
    subst hJ
    have q7 : A.bin .add .i64 (A.ofN i) 1 = A.ofN (i + 1) := by subst hA; simp; have : n ≤ 17592186044416 := hn; rw [w64_in (by omega)]
    rw [← q7]
    exact Ent.env hl
  clear eQ he hJ
  have l1 : A.cmp .lss (A.ofN i) (A.ofN n) = true → i < n := by subst hA; simp
  have l2 : A.cmp .lss (A.ofN i) (A.ofN n) = false → i = n := by subst hA; simp; omega
  have hin : i < n → A.inb (A.ofN i) n ∧ i = A.toN (A.ofN i) := by intro h; subst hA; simp; omega
  cbv
  intro hn
  cbv
  refine bc_split (fun h1 => ?_) (fun h1 => ?_)
  · have f1 := l1 h1
    cbv
    refine ⟨(hin f1).1, fun k hk hk2 => ?_⟩
    obtain rfl : i = k := (hin f1).2.trans hk.symm
    clear hk
    cbv
    rw [S.h4 i f1]
    cbv
    refine bc_split (fun h2 => ?_) (fun h2 => ?_)
    · have f2 : S.en i ≠ 0 := by subst hA; simpa using h2
      cbv
      refine ⟨(hin f1).1, fun k hk hk2 => ?_⟩
      obtain rfl : i = k := (hin f1).2.trans hk.symm
      clear hk
      cbv
      rw [S.h4 i f1]
      cbv
      refine bc_split (fun h3 => ?_) (fun h3 => ?_)
      · have f3 : S.en i < a3 := by subst hA; simpa using h3
        cbv
        exact yes _ f1 f2 f3
      · have f4 : ¬ S.en i < a3 := by subst hA; simpa using h3
        have f3 := next fun h => f4 h.2
        cbv
        exact ⟨f1, f3, hstep hn f1 _ (by cbv; all_goals trivial)⟩
    · have f4 : ¬ S.en i ≠ 0 := by subst hA; simpa using h2
      have f3 := next fun h => f4 h.1
      cbv
      exact ⟨f1, f3, hstep hn f1 _ (by cbv; all_goals trivial)⟩
  · cbv
    exact no (l2 h1) _

end Go.Proofs.Ytophlodlencgiaa
