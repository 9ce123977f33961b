/-
  Walks: words, clones, searches in rows of numbers.
-/
import Derived.Test.YtophlodlencgiabDoorDiaM
namespace Go.Proofs.YtophlodlencgiabDoor
open Go.V

theorem ok_wrap_Word (a : Int) : CallOK (O := Ob) PR n_wrap_Word [.dv (.int .i64 a)] [] fun r m => (∃ v, v = a % 65536 ∧ r = .dv (.int .i64 v)) ∧ m = [] := by
  refine fn_walk mixed fn_wrap_Word fun A P hA hP Q hQ => ?_
  cbv
  subst hQ hA
  exact ⟨⟨_, and_word a, rfl⟩, rfl⟩

theorem ok_Clone_ints (n : Nat) (g : Nat → Nat → DV) (hb : n * 8 ≤ 140737488355328) : CallOK (O := Ob) PR n_slices_Clone_Sint_int [.dv (.seq n 1 g)] [] fun r m => r = .dv (.seq n 1 g) ∧ m = [] := by
  refine fn_walk2 mixed fn_slices_Clone_Sint_int (Ent.refl _ _) fun A P hA hP Q hQ => ?_
  cbv
  intro b hb
  refine bc_split (fun h1 => ?_) (fun h1 => ?_)
  · cbv
    subst hQ hA
    obtain rfl : n = 0 := by
      rcases Nat.eq_zero_or_pos n with h | h
      · exact h
      · have := hb (by simpa using h)
        subst this; cases h1
    exact ⟨_, _, Ent.weak1 (.dv (.nil 1 g)), rfl, rfl⟩
  · cbv
    refine ⟨by subst hA; simp [maxN]; omega, ?_⟩
    cbv
    subst hQ hA
    refine ⟨.dv (.seq n 1 g), [], (Ent.frz (m := 0 + n) 1 g rfl fun i f _ _ => rfl).trans (Ent.none_ ?_), rfl, rfl⟩
    show SV.dv (.seq (0 + n) 1 g) = _
    rw [Nat.zero_add]
    rfl

/-- The first place from k on, below n, at which something is so; none: -1. -/
def firstAt (p : Nat → Bool) (n k : Nat) : Int :=
  if k < n then (if p k then k else firstAt p n (k + 1)) else -1
termination_by n - k

theorem firstAt_nonneg (p : Nat → Bool) (n k : Nat) : 0 ≤ firstAt p n k ↔ ∃ i, k ≤ i ∧ i < n ∧ p i = true := by
  fun_induction firstAt p n k with
  | case1 k h hp => exact ⟨fun _ => ⟨k, Nat.le_refl _, h, hp⟩, fun _ => by omega⟩
  | case2 k h hp ih =>
    rw [ih]
    constructor
    · rintro ⟨i, h1, h2, h3⟩; exact ⟨i, by omega, h2, h3⟩
    · rintro ⟨i, h1, h2, h3⟩
      refine ⟨i, ?_, h2, h3⟩
      rcases Nat.lt_or_ge k i with h' | h'
      · exact h'
      · have : i = k := by omega
        subst this; exact (hp h3).elim
  | case3 k h => exact ⟨fun h' => by omega, fun ⟨i, h1, h2, _⟩ => by omega⟩

/-- A closure without captures that tells something of a number. -/
def Tells (f : FuncId) (p : Int → Bool) : Prop := ∀ a, CallOK (O := Ob) PR f [.dv (.int .i64 a)] [] fun r m => (∃ v, v = p a ∧ r = .dv (.bool v)) ∧ m = []

theorem ok_IndexFunc_ints (n : Nat) (g : Nat → Nat → DV) (x : Nat → Int) (hg : ∀ i, i < n → g i 0 = .int .i64 (x i)) (f : FuncId) (hc : codeFn PR f = true) (p : Int → Bool) (hf : Tells f p) :
    CallOK (O := Ob) PR n_slices_IndexFunc_Sint_int [.dv (.seq n 1 g), .fn f []] [] fun r m => (∃ v, v = firstAt (fun i => p (x i)) n 0 ∧ r = .dv (.int .i64 v)) ∧ m = [] := by
  refine fn_walk mixed fn_slices_IndexFunc_Sint_int fun A P hA hP Q hQ => ?_
  cbv
  intro hn
  cbv
  refine loop_at mixed hP hA (fun i : { i : Nat // i ≤ n ∧ firstAt (fun i => p (x i)) n i = firstAt (fun i => p (x i)) n 0 } => ⟨envOf 19 [(0, .dv (.seq n 1 g)), (1, .fn f []), (7, .dv (.int .i64 (A.ofN n))), (8, .dv (.int .i64 (A.ofN i.1)))], []⟩) (fun i => n - i.1) ⟨0, Nat.zero_le _, rfl⟩ (Ent.env (by cbv; subst hA; simp)) ?_
  rintro ⟨i, hi, he⟩
  cbv
  refine bc_split (fun h1 => ?_) (fun h1 => ?_)
  · cbv
    have h2 : i < n := by subst hA; simpa using h1
    refine ⟨by subst hA; simp; omega, fun k hk hk2 => ?_⟩
    obtain rfl : k = i := by subst hA; simpa using hk
    cbv
    rw [hg k hk2]
    cbv
    refine call_pure hP hc (hf _) (by cbv; all_goals trivial) ?_
    rintro r ⟨v, hv, rfl⟩
    cbv
    refine bc_split (fun h3 => ?_) (fun h3 => ?_)
    · cbv
      subst hQ hA
      refine ⟨⟨_, ?_, rfl⟩, rfl⟩
      rw [← he, firstAt, if_pos h2, if_pos (hv ▸ h3)]
      rfl
    · cbv
      refine ⟨⟨k + 1, h2, ?_⟩, by simp only; omega, Ent.env ?_⟩
      · rw [← he]
        conv => rhs; rw [firstAt, if_pos h2, if_neg (by rw [← hv, h3]; simp)]
      · cbv
        subst hA
        simp
        have : n ≤ 17592186044416 := hn
        rw [w64_in (by omega)]
  · cbv
    subst hQ hA
    refine ⟨⟨_, ?_, rfl⟩, rfl⟩
    rw [← he, firstAt, if_neg (by simpa using h1)]

theorem ok_ContainsFunc_ints (n : Nat) (g : Nat → Nat → DV) (x : Nat → Int) (hg : ∀ i, i < n → g i 0 = .int .i64 (x i)) (f : FuncId) (hc : codeFn PR f = true) (p : Int → Bool) (hf : Tells f p) :
    CallOK (O := Ob) PR n_slices_ContainsFunc_Sint_int [.dv (.seq n 1 g), .fn f []] [] fun r m => (∃ v, (v = true ↔ ∃ i, i < n ∧ p (x i) = true) ∧ r = .dv (.bool v)) ∧ m = [] := by
  refine fn_walk mixed fn_slices_ContainsFunc_Sint_int fun A P hA hP Q hQ => ?_
  cbv
  refine call_pure hP code_slices_IndexFunc_Sint_int (ok_IndexFunc_ints n g x hg f hc p hf) (by cbv; all_goals trivial) ?_
  rintro r ⟨v, hv, rfl⟩
  cbv
  subst hQ hA
  refine ⟨⟨_, ?_, rfl⟩, rfl⟩
  simp only [std_geq, decide_eq_true_eq, hv, firstAt_nonneg, Nat.zero_le, true_and]

theorem ok_right_c1 : Tells n_diary_Entry_right_c1 fun a => decide (a ≠ a % 65536) := by
  intro a
  refine fn_walk mixed fn_diary_Entry_right_c1 fun A P hA hP Q hQ => ?_
  cbv
  refine call_pure hP code_wrap_Word (ok_wrap_Word _) (by cbv; all_goals trivial) ?_
  rintro r ⟨x, hx, rfl⟩
  cbv
  subst hQ hA hx
  exact ⟨⟨_, std_neq _ _, rfl⟩, rfl⟩

end Go.Proofs.YtophlodlencgiabDoor
