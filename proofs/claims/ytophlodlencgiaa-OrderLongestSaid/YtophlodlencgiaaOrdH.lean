/-
  Walks: whether the lists may be ordered; a row the other way round.
-/
import Derived.Test.YtophlodlencgiaaOrdG
namespace Go.Proofs.Ytophlodlencgiaa
open Go.V

set_option maxHeartbeats 4000000 in
theorem ok_shaped {n : Nat} {G : Nat → Nat → DV} (S : Ents n G) (q : Nat) (gk : Nat → Nat → DV) (x : Nat → Int) (hx : ∀ i, i < q → gk i 0 = .int .i64 (x i)) :
    CallOK (O := Ob) PR n_order_shaped [.dv (.seq n 8 G), .dv (.seq q 1 gk)] [] fun r m => (∃ v, (v = true ↔ S.shaped fun z => ∃ i, i < q ∧ x i = z) ∧ r = .dv (.bool v)) ∧ m = [] := by
  refine CallOK.drop (fn_walk mixed fn_order_shaped fun A P hA hP Q hQ => ?_)
  have eQ : ∀ (v : Bool) m, (v = true ↔ S.shaped fun z => ∃ i, i < q ∧ x i = z) → Q (.dv (.bool v)) m := fun v m hv => by
    subst hQ; exact ⟨.dv (.bool v), rfl, v, hv, rfl⟩
  clear hQ
  cbv
  intro hn
  have hn' : n ≤ 17592186044416 := hn
  cbv
  refine loop_nat mixed hP hA n (fun i => ∀ j, j < i → (∃ l, l < q ∧ x l = S.kd j) ∧ (S.en j = 0 → j + 1 = n)) (fun i => ⟨envOf 32 [(0, .dv (.seq n 8 G)), (1, .dv (.seq q 1 gk)), (7, .dv (.seq n 8 G)), (8, .dv (.int .i64 (A.ofN n))), (9, .dv (.int .i64 (A.ofN i)))], []⟩)
    (fun j hj => absurd hj (Nat.not_lt_zero j)) (Ent.env (by cbv; subst hA; simp)) fun J i hJ hi he => ?_
  have bad : ∀ m, i < n → ¬ ((∃ l, l < q ∧ x l = S.kd i) ∧ (S.en i = 0 → i + 1 = n)) → Q (.dv (.bool false)) m := fun m h1 h2 => eQ false m ⟨fun h => Bool.noConfusion h, fun h => (h2 (h i h1)).elim⟩
  have good : i = n → ∀ m, Q (.dv (.bool true)) m := fun h m => eQ true m ⟨fun _ j hj => he j (by omega), fun _ => rfl⟩
  have next : i < n → (∃ l, l < q ∧ x l = S.kd i) ∧ (S.en i = 0 → i + 1 = n) → ∀ j, j < i + 1 → (∃ l, l < q ∧ x l = S.kd j) ∧ (S.en j = 0 → j + 1 = n) := fun _ h => below_succ he h
  have hstep : i < n → ∀ e c, LLe [] e (envOf 32 [(0, .dv (.seq n 8 G)), (1, .dv (.seq q 1 gk)), (7, .dv (.seq n 8 G)), (8, .dv (.int .i64 (A.ofN n))), (9, .dv (.int .i64 (A.bin .add .i64 (A.ofN i) 1)))]) → Ent 0 (⟨e, [c]⟩ : St Ob) J := by
    intro h e c hl
    subst hJ
    have q7 : A.bin .add .i64 (A.ofN i) 1 = A.ofN (i + 1) := by subst hA; simp; rw [w64_in (by omega)]
    rw [← q7]
    exact Ent.ren [] rfl rfl trivial hl
  clear eQ he hJ
  have l1 : A.cmp .lss (A.ofN i) (A.ofN n) = true → i < n := by subst hA; simp
  have l2 : A.cmp .lss (A.ofN i) (A.ofN n) = false → i = n := by subst hA; simp; omega
  have l3 : i < n → (A.cmp .lss (A.ofN i) (A.bin .sub .i64 (A.ofN n) 1) = true ↔ i + 1 < n) := by intro h; subst hA; simp; rw [w64_in (by omega)]; omega
  have hin : i < n → A.inb (A.ofN i) n := by subst hA; simp
  have hto : i = A.toN (A.ofN i) := by subst hA; simp
  cbv
  refine bc_split (fun h1 => ?_) (fun h1 => ?_)
  · have f1 := l1 h1
    cbv
    refine ⟨hin f1, fun k hk hk2 => ?_⟩
    obtain rfl : i = k := hto.trans hk.symm
    clear hk
    cbv
    rw [S.h0 i f1, S.h1 i f1, S.h2 i f1, S.h3 i f1, S.h4 i f1, S.h5 i f1, S.h6 i f1, S.h7 i f1]
    cbv
    refine call_pure hP code_slices_Contains_Sint_int (ok_Contains q gk x hx (S.kd i)) (by cbv; all_goals simp) ?_
    rintro _ ⟨z, hz, rfl⟩
    cbv
    refine bc_split (fun h2 => ?_) (fun h2 => ?_)
    · have f2 : ¬ z = true := by subst hA; simpa [std] using h2
      cbv
      exact bad _ f1 fun h => f2 (hz.2 h.1)
    have f2 : z = true := by subst hA; simpa [std] using h2
    have f3 := hz.1 f2
    cbv
    refine bc_split (fun h3 => ?_) (fun h3 => ?_)
    · have f4 : S.en i = 0 := by subst hA; simpa using h3
      cbv
      intro _
      cbv
      refine bc_split (fun h4 => ?_) (fun h4 => ?_)
      · have f5 := (l3 f1).1 h4
        cbv
        exact bad _ f1 fun h => by have := h.2 f4; omega
      · have f5 : ¬ i + 1 < n := fun h => Bool.noConfusion (h4.symm.trans ((l3 f1).2 h))
        have f6 := next f1 ⟨f3, fun _ => by omega⟩
        cbv
        exact ⟨f1, f6, hstep f1 _ _ (by cbv; all_goals trivial)⟩
    · have f4 : ¬ S.en i = 0 := by subst hA; simpa using h3
      have f6 := next f1 ⟨f3, fun h => (f4 h).elim⟩
      cbv
      exact ⟨f1, f6, hstep f1 _ _ (by cbv; all_goals trivial)⟩
  · cbv
    exact good (l2 h1) _

/-- A row that is turned round from its ends on. -/
def rvF (N i : Nat) (z : Nat → Int) (j : Nat) : Int := if j < i ∨ N - i ≤ j then z (N - 1 - j) else z j

set_option maxHeartbeats 4000000 in
theorem ok_Reverse (N : Nat) (z : Nat → Int) (hN : N < 1000) : CallOK (O := Ob) PR n_slices_Reverse_Sint_int [.vec 0] [.vec N 1 (fun j _ => .dv (.int .i64 (z j)))] fun _ m => m = [.vec N 1 (fun j _ => .dv (.int .i64 (z (N - 1 - j))))] := by
  refine fn_walk2 mixed fn_slices_Reverse_Sint_int (Ent.refl _ _) fun A P hA hP Q hQ => ?_
  have eQ : ∀ (v : SV) (y : Nat → Nat → SV), (∀ j f, j < N → f < 1 → y j f = .dv (.int .i64 (z (N - 1 - j)))) → Q v [.vec N 1 y] := by
    intro v y hy
    subst hQ
    refine ⟨.junk, _, Ent.ren (s' := ⟨[.junk], [.vec N 1 (fun j _ => .dv (.int .i64 (z (N - 1 - j))))]⟩) [0] rfl rfl ⟨⟨rfl, rfl, fun j f hj hf => ?_⟩, trivial⟩ ⟨trivial, trivial⟩, rfl⟩
    rw [hy j f hj hf]; rfl
  clear hQ
  obtain ⟨zj, hzj⟩ : ∃ zj : Nat → Int, ∀ i : Nat, zj i = (N : Int) - 1 - i := ⟨_, fun _ => rfl⟩
  have q0 : A.bin .sub .i64 (A.ofN N) 1 = zj 0 := by rw [hzj]; subst hA; simp; rw [w64_in (by omega)]
  have q7 : ∀ i, 2 * i + 1 < N → A.bin .add .i64 (A.ofN i) 1 = A.ofN (i + 1) := by intro i h; subst hA; simp; rw [w64_in (by omega)]
  have q8 : ∀ i, 2 * i + 1 < N → A.bin .sub .i64 (zj i) 1 = zj (i + 1) := by intro i h; rw [hzj, hzj]; subst hA; simp; rw [w64_in (by omega)]; omega
  have l1 : ∀ i, A.cmp .lss (A.ofN i) (zj i) = true → 2 * i + 1 < N := by intro i; rw [hzj]; subst hA; simp; omega
  have l2 : ∀ i, A.cmp .lss (A.ofN i) (zj i) = false → N ≤ 2 * i + 1 := by intro i; rw [hzj]; subst hA; simp; omega
  have hin : ∀ i, 2 * i + 1 < N → A.inb (A.ofN i) N ∧ i = A.toN (A.ofN i) := by intro i h; subst hA; simp; omega
  have hin2 : ∀ i, 2 * i + 1 < N → A.inb (zj i) N ∧ N - 1 - i = A.toN (zj i) := by intro i; rw [hzj]; intro h; subst hA; simp; omega
  clear hzj
  cbv
  intro hn
  cbv
  refine loop_nat mixed hP hA N (fun _ => True) (fun i => ⟨envOf 28 [(0, .vec 0), (2, .dv (.int .i64 (A.ofN i))), (3, .dv (.int .i64 (zj i)))], [.vec N 1 (fun j _ => .dv (.int .i64 (rvF N i z j)))]⟩)
    trivial ?_ fun J i hJ hi _ => ?_
  · show Ent _ _ (⟨envOf 28 [(0, .vec 0), (2, .dv (.int .i64 (A.ofN 0))), (3, .dv (.int .i64 (zj 0)))], [.vec N 1 (fun j _ => .dv (.int .i64 (rvF N 0 z j)))]⟩ : St Ob)
    rw [← q0]
    refine Ent.ren [0] rfl rfl ⟨⟨rfl, rfl, fun j f hj hf => ?_⟩, trivial⟩ (by cbv; subst hA; simp)
    show SV.dv (.int .i64 (z j)) = renV [0] (.dv (.int .i64 (rvF N 0 z j)))
    rw [rvF, if_neg (by omega)]; rfl
  have hstep : 2 * i + 1 < N → ∀ e (y : Nat → Nat → SV), (∀ j f, j < N → f < 1 → y j f = .dv (.int .i64 (rvF N (i + 1) z j))) → LLe [0] e (envOf 28 [(0, .vec 0), (2, .dv (.int .i64 (A.bin .add .i64 (A.ofN i) 1))), (3, .dv (.int .i64 (A.bin .sub .i64 (zj i) 1)))]) → Ent 1 (⟨e, [.vec N 1 y]⟩ : St Ob) J := by
    intro h e y hy hl
    subst hJ
    rw [q7 i h, q8 i h] at hl
    refine Ent.ren [0] rfl rfl ⟨⟨rfl, rfl, fun j f hj hf => ?_⟩, trivial⟩ hl
    rw [hy j f hj hf]; rfl
  replace l1 := l1 i
  replace l2 := l2 i
  replace hin := hin i
  replace hin2 := hin2 i
  have hv1 : 2 * i + 1 < N → rvF N i z (N - 1 - i) = z (N - 1 - i) := fun h => by rw [rvF, if_neg (by omega)]
  have hv2 : 2 * i + 1 < N → rvF N i z i = z i := fun h => by rw [rvF, if_neg (by omega)]
  have hupd : 2 * i + 1 < N → ∀ j f, j < N → f < 1 → updRow (updRow (fun j _ => .dv (.int .i64 (rvF N i z j))) i 0 [.dv (.int .i64 (rvF N i z (N - 1 - i)))]) (N - 1 - i) 0 [.dv (.int .i64 (rvF N i z i))] j f = .dv (.int .i64 (rvF N (i + 1) z j)) := by
    intro h j f hj hf
    obtain rfl : f = 0 := by omega
    rw [hv1 h, hv2 h]
    simp only [updRow, Nat.lt_irrefl, if_false, Nat.sub_self, lget]
    by_cases e1 : j = N - 1 - i
    · subst e1
      rw [if_pos rfl, rvF, if_pos (by omega)]
      congr 3; omega
    · rw [if_neg e1]
      by_cases e2 : j = i
      · subst e2
        rw [if_pos rfl, rvF, if_pos (by omega)]
      · rw [if_neg e2, rvF, rvF]
        by_cases e3 : j < i ∨ N - i ≤ j
        · rw [if_pos e3, if_pos (by omega)]
        · rw [if_neg e3, if_neg (by omega)]
  have hend : N ≤ 2 * i + 1 → ∀ j f, j < N → f < 1 → (SV.dv (.int .i64 (rvF N i z j))) = .dv (.int .i64 (z (N - 1 - j))) := by
    intro h j f hj _
    rw [rvF]
    split
    · rfl
    · congr 3; omega
  clear hJ q0 q7 q8 hv1 hv2
  generalize rvF N i z = y at *
  generalize N - 1 - i = r at *
  cbv
  refine bc_split (fun h1 => ?_) (fun h1 => ?_)
  · have f1 := l1 h1
    have f2 : i < N := by omega
    cbv
    refine ⟨(hin2 f1).1, fun k hk hk2 => ?_⟩
    obtain rfl : r = k := (hin2 f1).2.trans hk.symm
    clear hk
    cbv
    refine ⟨(hin f1).1, fun k hk hk2 => ?_⟩
    obtain rfl : i = k := (hin f1).2.trans hk.symm
    clear hk
    cbv
    refine ⟨(hin f1).1, fun k hk hk2 => ?_⟩
    obtain rfl : i = k := (hin f1).2.trans hk.symm
    clear hk
    cbv
    refine ⟨(hin2 f1).1, fun k hk hk2 => ?_⟩
    obtain rfl : r = k := (hin2 f1).2.trans hk.symm
    clear hk
    cbv
    exact ⟨f2, hstep f1 _ _ (hupd f1) (by cbv; all_goals trivial)⟩
  · cbv
    exact eQ _ _ (hend (l2 h1))

end Go.Proofs.Ytophlodlencgiaa
