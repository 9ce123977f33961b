/-
  Walks: confs, sizes.
-/
import Derived.Test.YtophlodlencgiaaDoorFFoeA
namespace Go.Proofs.YtophlodlencgiaaDoor
open Go.V

def rightC (c r b : Int) : Bool := decide (2 ≤ c ∧ c ≤ 8) && ringOk r && decide (1 ≤ b ∧ b ≤ 16)
def sizeI (r : Int) : Int := if ringOk r = true then 4 + 11 * r else 0
def wordsI (c r b : Int) : Int := if rightC c r b = true then c * (c - 1) * sizeI r else 0
def hasI (c r b core : Int) : Bool := rightC c r b && decide (0 ≤ core ∧ core < c)

theorem ring_vals {r : Int} (h : ringOk r = true) : r = 2 ∨ r = 4 ∨ r = 8 ∨ r = 16 ∨ r = 32 ∨ r = 64 := by simpa [ringOk] using h
theorem right_vals {c r b : Int} (h : rightC c r b = true) : (2 ≤ c ∧ c ≤ 8) ∧ ringOk r = true ∧ 1 ≤ b ∧ b ≤ 16 := by
  simp only [rightC, Bool.and_eq_true, decide_eq_true_eq] at h
  exact ⟨h.1.1, h.1.2, h.2⟩

def Pw (q : Int) : Prop := q = 2 ∨ q = 4 ∨ q = 8 ∨ q = 16 ∨ q = 32 ∨ q = 64 ∨ q = 128

theorem ok_refRing (n : Int) : CallOK (O := Ob) PR n_ref13_Ring [.dv (.int .i64 n)] [] fun r m => (∃ v, v = ringOk n ∧ r = .dv (.bool v)) ∧ m = [] := by
  refine fn_walk mixed fn_ref13_Ring fun A P hA hP Q hQ => ?_
  cbv
  refine loop_at mixed hP hA (fun i : { q : Int // Pw q ∧ ∀ m : Int, m < q → m ≤ 64 → Pw m → n ≠ m } => ⟨envOf 11 [(0, .dv (.int .i64 n)), (3, .dv (.int .i64 i.1))], []⟩) (fun i => 128 - i.1.toNat) ⟨2, .inl rfl, fun m hm _ hp => by unfold Pw at hp; omega⟩ (Ent.env (by cbv; all_goals trivial)) ?_
  rintro ⟨q, hq, hn⟩
  have hq2 : 2 ≤ q ∧ q ≤ 128 := by unfold Pw at hq; omega
  cbv
  refine bc_split (fun h1 => ?_) (fun h1 => ?_)
  · have f1 : q ≤ 64 := by subst hA; simpa using h1
    cbv
    refine bc_split (fun h2 => ?_) (fun h2 => ?_)
    · have f2 : q = n := by subst hA; simpa using h2
      cbv
      subst hQ hA
      refine ⟨⟨true, ?_, rfl⟩, rfl⟩
      symm
      unfold Pw at hq
      simp only [ringOk, decide_eq_true_eq]; omega
    · have f2 : ¬ q = n := by subst hA; simpa using h2
      have e1 : A.bin .mul .i64 2 q = 2 * q := by subst hA; simp only [std_mul]; rw [w64_in (by omega)]
      have hq3 : Pw (2 * q) := by unfold Pw at hq ⊢; omega
      have hn3 : ∀ m : Int, m < 2 * q → m ≤ 64 → Pw m → n ≠ m := by
        intro m hm hm2 hp
        rcases Int.lt_or_le m q with hlt | hle
        · exact hn m hlt hm2 hp
        · have : m = q := by unfold Pw at hq hp; omega
          omega
      cbv
      refine ⟨⟨2 * q, hq3, hn3⟩, by simp only; omega, ?_⟩
      show Ent _ _ (⟨envOf 11 [(0, .dv (.int .i64 n)), (3, .dv (.int .i64 (2 * q)))], []⟩ : St Ob)
      rw [← e1]
      exact Ent.env (by cbv; all_goals trivial)
  · have f1 : ¬ q ≤ 64 := by subst hA; simpa using h1
    cbv
    subst hQ hA
    refine ⟨⟨false, ?_, rfl⟩, rfl⟩
    symm
    simp only [ringOk, decide_eq_false_iff_not]
    intro h
    exact hn n (by omega) (by omega) (by unfold Pw; omega) rfl

theorem ok_Right (c r b : Int) : CallOK (O := Ob) PR n_plot_Right [.agg [.dv (.int .i64 c), .dv (.int .i64 r), .dv (.int .i64 b)]] [] fun x m => (∃ v, v = rightC c r b ∧ x = .dv (.bool v)) ∧ m = [] := by
  refine CallOK.drop (fn_walk mixed fn_plot_Right fun A P hA hP Q hQ => ?_)
  cbv
  refine bc_split (fun h1 => ?_) (fun h1 => ?_)
  · cbv
    have f1 : 2 ≤ c := by subst hA; simpa using h1
    refine bc_split (fun h2 => ?_) (fun h2 => ?_)
    · cbv
      have f2 : c ≤ 8 := by subst hA; simpa using h2
      refine call_pure hP code_plot_ringed (ok_ringed r) (by cbv; all_goals trivial) ?_
      rintro _ ⟨ro, hro, rfl⟩
      cbv
      refine bc_split (fun h3 => ?_) (fun h3 => ?_)
      · cbv
        refine bc_split (fun h4 => ?_) (fun h4 => ?_)
        · cbv
          have f4 : 1 ≤ b := by subst hA; simpa using h4
          subst hQ hA
          refine ⟨.dv (.bool (std.cmp .leq b 16)), rfl, _, ?_, rfl⟩
          rw [rightC, ← hro, h3]; simp [f1, f2, f4]
        · cbv
          have f4 : ¬ 1 ≤ b := by subst hA; simpa using h4
          subst hQ hA
          exact ⟨.dv (.bool false), rfl, false, by rw [rightC]; simp [f4], rfl⟩
      · cbv
        subst hQ hA
        exact ⟨.dv (.bool false), rfl, false, by rw [rightC, ← hro, h3]; simp, rfl⟩
    · cbv
      have f2 : ¬ c ≤ 8 := by subst hA; simpa using h2
      subst hQ hA
      exact ⟨.dv (.bool false), rfl, false, by rw [rightC]; simp [f2], rfl⟩
  · cbv
    have f1 : ¬ 2 ≤ c := by subst hA; simpa using h1
    subst hQ hA
    exact ⟨.dv (.bool false), rfl, false, by rw [rightC]; simp [f1], rfl⟩

theorem okR_Right (c r b : Int) : CallOK (O := Ob) PR n_ref13_Right [.agg [.dv (.int .i64 c), .dv (.int .i64 r), .dv (.int .i64 b)]] [] fun x m => (∃ v, v = rightC c r b ∧ x = .dv (.bool v)) ∧ m = [] := by
  refine CallOK.drop (fn_walk mixed fn_ref13_Right fun A P hA hP Q hQ => ?_)
  cbv
  refine bc_split (fun h1 => ?_) (fun h1 => ?_)
  · cbv
    have f1 : 2 ≤ c := by subst hA; simpa using h1
    refine bc_split (fun h2 => ?_) (fun h2 => ?_)
    · cbv
      have f2 : c ≤ 8 := by subst hA; simpa using h2
      refine call_pure hP code_ref13_Ring (ok_refRing r) (by cbv; all_goals trivial) ?_
      rintro _ ⟨ro, hro, rfl⟩
      cbv
      refine bc_split (fun h3 => ?_) (fun h3 => ?_)
      · cbv
        refine bc_split (fun h4 => ?_) (fun h4 => ?_)
        · cbv
          have f4 : 1 ≤ b := by subst hA; simpa using h4
          subst hQ hA
          refine ⟨.dv (.bool (std.cmp .leq b 16)), rfl, _, ?_, rfl⟩
          rw [rightC, ← hro, h3]; simp [f1, f2, f4]
        · cbv
          have f4 : ¬ 1 ≤ b := by subst hA; simpa using h4
          subst hQ hA
          exact ⟨.dv (.bool false), rfl, false, by rw [rightC]; simp [f4], rfl⟩
      · cbv
        subst hQ hA
        exact ⟨.dv (.bool false), rfl, false, by rw [rightC, ← hro, h3]; simp, rfl⟩
    · cbv
      have f2 : ¬ c ≤ 8 := by subst hA; simpa using h2
      subst hQ hA
      exact ⟨.dv (.bool false), rfl, false, by rw [rightC]; simp [f2], rfl⟩
  · cbv
    have f1 : ¬ 2 ≤ c := by subst hA; simpa using h1
    subst hQ hA
    exact ⟨.dv (.bool false), rfl, false, by rw [rightC]; simp [f1], rfl⟩

theorem ok_has (c r b core : Int) : CallOK (O := Ob) PR n_foe_has [.agg [.dv (.int .i64 c), .dv (.int .i64 r), .dv (.int .i64 b)], .dv (.int .i64 core)] [] fun x m => (∃ v, v = hasI c r b core ∧ x = .dv (.bool v)) ∧ m = [] := by
  refine CallOK.drop (fn_walk mixed fn_foe_has fun A P hA hP Q hQ => ?_)
  cbv
  refine call_pure hP code_plot_Right (ok_Right c r b) (by cbv; all_goals simp) ?_
  rintro _ ⟨ro, hro, rfl⟩
  cbv
  refine bc_split (fun h1 => ?_) (fun h1 => ?_)
  · cbv
    refine bc_split (fun h2 => ?_) (fun h2 => ?_)
    · cbv
      have f2 : 0 ≤ core := by subst hA; simpa using h2
      subst hQ hA
      refine ⟨.dv (.bool (std.cmp .lss core c)), rfl, _, ?_, rfl⟩
      rw [hasI, ← hro, h1]; simp [f2]
    · cbv
      have f2 : ¬ 0 ≤ core := by subst hA; simpa using h2
      subst hQ hA
      exact ⟨.dv (.bool false), rfl, false, by rw [hasI]; simp [f2], rfl⟩
  · cbv
    subst hQ hA
    exact ⟨.dv (.bool false), rfl, false, by rw [hasI, ← hro, h1]; simp, rfl⟩

theorem okR_has (c r b core : Int) : CallOK (O := Ob) PR n_ref23_has [.agg [.dv (.int .i64 c), .dv (.int .i64 r), .dv (.int .i64 b)], .dv (.int .i64 core)] [] fun x m => (∃ v, v = hasI c r b core ∧ x = .dv (.bool v)) ∧ m = [] := by
  refine CallOK.drop (fn_walk mixed fn_ref23_has fun A P hA hP Q hQ => ?_)
  cbv
  refine call_pure hP code_ref13_Right (okR_Right c r b) (by cbv; all_goals simp) ?_
  rintro _ ⟨ro, hro, rfl⟩
  cbv
  refine bc_split (fun h1 => ?_) (fun h1 => ?_)
  · cbv
    refine bc_split (fun h2 => ?_) (fun h2 => ?_)
    · cbv
      have f2 : 0 ≤ core := by subst hA; simpa using h2
      subst hQ hA
      refine ⟨.dv (.bool (std.cmp .lss core c)), rfl, _, ?_, rfl⟩
      rw [hasI, ← hro, h1]; simp [f2]
    · cbv
      have f2 : ¬ 0 ≤ core := by subst hA; simpa using h2
      subst hQ hA
      exact ⟨.dv (.bool false), rfl, false, by rw [hasI]; simp [f2], rfl⟩
  · cbv
    subst hQ hA
    exact ⟨.dv (.bool false), rfl, false, by rw [hasI, ← hro, h1]; simp, rfl⟩

theorem ok_Size (r : Int) : CallOK (O := Ob) PR n_plot_Size [.dv (.int .i64 r)] [] fun x m => (∃ v, v = sizeI r ∧ x = .dv (.int .i64 v)) ∧ m = [] := by
  refine fn_walk mixed fn_plot_Size fun A P hA hP Q hQ => ?_
  cbv
  refine call_pure hP code_plot_ringed (ok_ringed r) (by cbv; all_goals trivial) ?_
  rintro _ ⟨ro, hro, rfl⟩
  cbv
  refine bc_split (fun h1 => ?_) (fun h1 => ?_)
  · cbv
    have f1 : ro = false := by subst hA; simpa [std] using h1
    subst hQ hA
    exact ⟨⟨0, by rw [sizeI, ← hro, f1]; rfl, rfl⟩, rfl⟩
  · cbv
    have f1 : ringOk r = true := by rw [← hro]; subst hA; simpa [std] using h1
    refine ⟨by subst hA; simp, fun k hk hk2 => ?_⟩
    obtain rfl : k = 8 := by subst hA; simpa using hk
    clear hk hk2
    cbv
    subst hQ hA
    refine ⟨⟨_, ?_, rfl⟩, rfl⟩
    show std.bin .add .i64 4 (std.bin .mul .i64 (std.bin .add .i64 3 8) r) = _
    have := ring_vals f1
    simp only [std_add, std_mul]
    rw [w64_in (n := 3 + 8) (by omega), w64_in (n := (3 + 8) * r) (by omega), w64_in (by omega), sizeI, if_pos f1]; omega

theorem okR_Size (r : Int) : CallOK (O := Ob) PR n_ref13_Size [.dv (.int .i64 r)] [] fun x m => (∃ v, v = sizeI r ∧ x = .dv (.int .i64 v)) ∧ m = [] := by
  refine fn_walk mixed fn_ref13_Size fun A P hA hP Q hQ => ?_
  cbv
  refine call_pure hP code_ref13_Ring (ok_refRing r) (by cbv; all_goals trivial) ?_
  rintro _ ⟨ro, hro, rfl⟩
  cbv
  refine bc_split (fun h1 => ?_) (fun h1 => ?_)
  · cbv
    have f1 : ro = false := by subst hA; simpa [std] using h1
    subst hQ hA
    exact ⟨⟨0, by rw [sizeI, ← hro, f1]; rfl, rfl⟩, rfl⟩
  · cbv
    have f1 : ringOk r = true := by rw [← hro]; subst hA; simpa [std] using h1
    subst hQ hA
    refine ⟨⟨_, ?_, rfl⟩, rfl⟩
    show std.bin .add .i64 (std.bin .add .i64 (std.bin .add .i64 (std.bin .add .i64 4 r) r) r) (std.bin .mul .i64 8 r) = _
    have := ring_vals f1
    simp only [std_add, std_mul]
    rw [w64_in (n := 4 + r) (by omega), w64_in (n := 4 + r + r) (by omega), w64_in (n := 4 + r + r + r) (by omega), w64_in (n := 8 * r) (by omega), w64_in (by omega), sizeI, if_pos f1]; omega

theorem size_bounds {r : Int} (h : ringOk r = true) : 26 ≤ sizeI r ∧ sizeI r ≤ 708 := by
  rw [sizeI, if_pos h]; have := ring_vals h; omega

theorem pairs_bounds {c : Int} (h : 2 ≤ c ∧ c ≤ 8) : 2 ≤ c * (c - 1) ∧ c * (c - 1) ≤ 56 := by
  rcases (by omega : c = 2 ∨ c = 3 ∨ c = 4 ∨ c = 5 ∨ c = 6 ∨ c = 7 ∨ c = 8) with rfl | rfl | rfl | rfl | rfl | rfl | rfl <;> decide

theorem words_bounds {c r : Int} (h : 2 ≤ c ∧ c ≤ 8) (hr : ringOk r = true) : 52 ≤ c * (c - 1) * sizeI r ∧ c * (c - 1) * sizeI r ≤ 39648 := by
  have h1 := pairs_bounds h
  rw [sizeI, if_pos hr]
  rcases ring_vals hr with rfl | rfl | rfl | rfl | rfl | rfl <;> omega

theorem ok_Words (c r b : Int) : CallOK (O := Ob) PR n_plot_Words [.agg [.dv (.int .i64 c), .dv (.int .i64 r), .dv (.int .i64 b)]] [] fun x m => (∃ v, v = wordsI c r b ∧ x = .dv (.int .i64 v)) ∧ m = [] := by
  refine CallOK.drop (fn_walk mixed fn_plot_Words fun A P hA hP Q hQ => ?_)
  cbv
  refine call_pure hP code_plot_Right (ok_Right c r b) (by cbv; all_goals simp) ?_
  rintro _ ⟨ro, hro, rfl⟩
  cbv
  refine bc_split (fun h1 => ?_) (fun h1 => ?_)
  · cbv
    have f1 : ro = false := by subst hA; simpa [std] using h1
    subst hQ hA
    exact ⟨.dv (.int .i64 0), rfl, 0, by rw [wordsI, ← hro, f1]; rfl, rfl⟩
  · cbv
    have f1 : rightC c r b = true := by rw [← hro]; subst hA; simpa [std] using h1
    refine call_pure hP code_plot_Size (ok_Size r) (by cbv; all_goals trivial) ?_
    rintro _ ⟨s, hs, rfl⟩
    cbv
    subst hQ hA
    refine ⟨.dv (.int .i64 (std.bin .mul .i64 (std.bin .mul .i64 c (std.bin .sub .i64 c 1)) s)), rfl, _, ?_, rfl⟩
    obtain ⟨v1, v2, _⟩ := right_vals f1
    have w1 := pairs_bounds v1
    have w2 := words_bounds v1 v2
    rw [hs]
    simp only [std_sub, std_mul]
    rw [w64_in (n := c - 1) (by omega), w64_in (n := c * (c - 1)) (by omega), w64_in (by omega), wordsI, if_pos f1]

end Go.Proofs.YtophlodlencgiaaDoor
