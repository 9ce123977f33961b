/-
  Walks: rings.
-/
import Derived.Test.YtophlodlencgiaaDoorFVcgX
import Derived.Test.YtophlodlencgiaaDoorFDIr
namespace Go.Proofs.YtophlodlencgiaaDoor
open Go.V

def ringOk (n : Int) : Bool := decide (n = 2 ∨ n = 4 ∨ n = 8 ∨ n = 16 ∨ n = 32 ∨ n = 64)

theorem ok_below (n most : Int) : CallOK (O := Ob) PR n_site_below [.dv (.int .i64 n), .dv (.int .i64 most)] [] fun r m => (∃ v, v = decide (0 ≤ n ∧ n < most) ∧ r = .dv (.bool v)) ∧ m = [] := by
  refine fn_walk mixed fn_site_below fun A P hA hP Q hQ => ?_
  cbv
  refine bc_split (fun h1 => ?_) (fun h1 => ?_)
  · cbv
    have f1 : 0 ≤ n := by subst hA; simpa using h1
    subst hQ hA
    refine ⟨⟨_, ?_, rfl⟩, rfl⟩
    show std.cmp .lss n most = _
    simp [f1]
  · cbv
    have f1 : ¬ 0 ≤ n := by subst hA; simpa using h1
    subst hQ hA
    refine ⟨⟨false, ?_, rfl⟩, rfl⟩
    simp [f1]

theorem wrap_u64 (n : Int) : 0 ≤ IntKind.u64.wrap n ∧ IntKind.u64.wrap n < 18446744073709551616 := by
  show 0 ≤ (if (false && decide (n % (2 ^ 64 : Int) ≥ (2 ^ 63 : Int))) = true then n % (2 ^ 64 : Int) - (2 ^ 64 : Int) else n % (2 ^ 64 : Int)) ∧ (if (false && decide (n % (2 ^ 64 : Int) ≥ (2 ^ 63 : Int))) = true then n % (2 ^ 64 : Int) - (2 ^ 64 : Int) else n % (2 ^ 64 : Int)) < 18446744073709551616
  simp only [Bool.false_and, Bool.false_eq_true, if_false, show (2 : Int) ^ 64 = 18446744073709551616 from by decide]
  omega

theorem shr_58 (n : Int) : 0 ≤ std.bin .shr .u64 (IntKind.u64.wrap n) 58 ∧ std.bin .shr .u64 (IntKind.u64.wrap n) 58 < 64 := by
  obtain ⟨h1, h2⟩ := wrap_u64 n
  rw [std_shr, show (2 : Int) ^ (min (58 : Int).toNat IntKind.u64.bits) = 288230376151711744 from by decide, Int.fdiv_eq_ediv_of_nonneg _ (by decide)]
  omega

def tzIdx (x : Int) : Nat := (std.bin .shr .u64 (std.bin .mul .u64 (std.bin .and .u64 x (std.un .neg .u64 x)) 285870213051353865) 58).toNat

theorem tz_one : tzIdx 1 = 0 := by decide +kernel
theorem tz_pow : tzIdx 2 = 1 ∧ tzIdx 4 = 3 ∧ tzIdx 8 = 7 ∧ tzIdx 16 = 15 ∧ tzIdx 32 = 31 ∧ tzIdx 64 = 63 := by decide +kernel

set_option maxRecDepth 10000 in
theorem ok_TrailingZeros64 (x : Int) : CallOK (O := Ob) PR n_math_bits_TrailingZeros64 [.dv (.int .u64 x)] [] fun r m =>
    (∃ v, (x = 1 → v = 0) ∧ ((x = 2 ∨ x = 4 ∨ x = 8 ∨ x = 16 ∨ x = 32 ∨ x = 64) → 0 < v) ∧ r = .dv (.int .i64 v)) ∧ m = [] := by
  refine fn_walk mixed fn_math_bits_TrailingZeros64 fun A P hA hP Q hQ => ?_
  cbv
  refine bc_split (fun h1 => ?_) (fun h1 => ?_)
  · cbv
    have f1 : x = 0 := by subst hA; simpa using h1
    subst hQ hA
    exact ⟨⟨64, by omega, by omega, rfl⟩, rfl⟩
  cbv
  refine ⟨by subst hA; show (0 : Int) ≤ 58; omega, ?_⟩
  cbv
  refine ⟨by subst hA; exact shr_58 _, fun k hk hk2 => ?_⟩
  have hk3 : k = tzIdx x := by subst hA; exact hk
  have e1 : x = 1 → A.conv .i64 (tzT k) = 0 := by
    rintro rfl
    subst hA
    rw [hk3, tz_one]; decide +kernel
  have e2 : (x = 2 ∨ x = 4 ∨ x = 8 ∨ x = 16 ∨ x = 32 ∨ x = 64) → 0 < A.conv .i64 (tzT k) := by
    subst hA
    obtain ⟨t1, t2, t3, t4, t5, t6⟩ := tz_pow
    rintro (rfl | rfl | rfl | rfl | rfl | rfl)
    · rw [hk3, t1]; decide +kernel
    · rw [hk3, t2]; decide +kernel
    · rw [hk3, t3]; decide +kernel
    · rw [hk3, t4]; decide +kernel
    · rw [hk3, t5]; decide +kernel
    · rw [hk3, t6]; decide +kernel
  clear hk3
  obtain ⟨v, hv⟩ : ∃ v, v = A.conv .i64 (tzT k) := ⟨_, rfl⟩
  rw [← hv] at e1 e2
  cbv
  subst hQ
  exact ⟨⟨v, e1, e2, congrArg (fun z => SV.dv (DV.int .i64 z)) hv.symm⟩, rfl⟩

theorem log_and : ∀ k : Fin 65, 1 ≤ k.val → std.bin .and .i64 (k.val : Int) (std.bin .sub .i64 (k.val : Int) 1) = 0 → (k.val = 1 ∨ k.val = 2 ∨ k.val = 4 ∨ k.val = 8 ∨ k.val = 16 ∨ k.val = 32 ∨ k.val = 64) := by decide +kernel
theorem log_pow : std.bin .and .i64 2 (std.bin .sub .i64 2 1) = 0 ∧ std.bin .and .i64 4 (std.bin .sub .i64 4 1) = 0 ∧ std.bin .and .i64 8 (std.bin .sub .i64 8 1) = 0 ∧ std.bin .and .i64 16 (std.bin .sub .i64 16 1) = 0 ∧
    std.bin .and .i64 32 (std.bin .sub .i64 32 1) = 0 ∧ std.bin .and .i64 64 (std.bin .sub .i64 64 1) = 0 := by decide +kernel
theorem conv_pow : std.conv .u64 1 = 1 ∧ std.conv .u64 2 = 2 ∧ std.conv .u64 4 = 4 ∧ std.conv .u64 8 = 8 ∧ std.conv .u64 16 = 16 ∧ std.conv .u64 32 = 32 ∧ std.conv .u64 64 = 64 := by decide +kernel

theorem ok_Log (n : Int) : CallOK (O := Ob) PR n_wrap_Log [.dv (.int .i64 n)] [] fun r m =>
    (∃ l ok, (ok = true → n ≤ 64 → ringOk n = decide (0 < l)) ∧ (ok = false → ringOk n = false) ∧ r = .tup [.dv (.int .i64 l), .dv (.bool ok)]) ∧ m = [] := by
  refine fn_walk mixed fn_wrap_Log fun A P hA hP Q hQ => ?_
  cbv
  refine bc_split (fun h1 => ?_) (fun h1 => ?_)
  · cbv
    have f1 : n < 1 := by subst hA; simpa using h1
    subst hQ hA
    refine ⟨⟨0, false, by simp, fun _ => ?_, rfl⟩, rfl⟩
    simp only [ringOk, decide_eq_false_iff_not]; omega
  have f1 : ¬ n < 1 := by subst hA; simpa using h1
  cbv
  refine bc_split (fun h2 => ?_) (fun h2 => ?_)
  · cbv
    have f2 : std.bin .and .i64 n (std.bin .sub .i64 n 1) ≠ 0 := by
      subst hA
      have : std.cmp .neq (std.bin .and .i64 n (std.bin .sub .i64 n 1)) 0 = true := h2
      simpa only [std_neq, decide_eq_true_eq] using this
    subst hQ hA
    refine ⟨⟨0, false, by simp, fun _ => ?_, rfl⟩, rfl⟩
    obtain ⟨t1, t2, t3, t4, t5, t6⟩ := log_pow
    simp only [ringOk, decide_eq_false_iff_not]
    rintro (rfl | rfl | rfl | rfl | rfl | rfl)
    · exact f2 t1
    · exact f2 t2
    · exact f2 t3
    · exact f2 t4
    · exact f2 t5
    · exact f2 t6
  have f2 : std.bin .and .i64 n (std.bin .sub .i64 n 1) = 0 := by
    subst hA
    have : std.cmp .neq (std.bin .and .i64 n (std.bin .sub .i64 n 1)) 0 = false := h2
    simpa only [std_neq, decide_eq_false_iff_not, Classical.not_not] using this
  have f3 : n ≤ 64 → (n = 1 ∨ n = 2 ∨ n = 4 ∨ n = 8 ∨ n = 16 ∨ n = 32 ∨ n = 64) := by
    intro hle
    obtain ⟨k, rfl⟩ : ∃ k : Nat, n = k := ⟨n.toNat, by omega⟩
    have := log_and ⟨k, by omega⟩ (by simp only; omega) f2
    simp only at this
    omega
  cbv
  refine call_pure hP code_math_bits_TrailingZeros64 (ok_TrailingZeros64 (A.conv .u64 n)) (by cbv; all_goals trivial) ?_
  rintro r ⟨v, hv1, hv2, rfl⟩
  have hv1 : A.conv .u64 n = 1 → v = 0 := hv1
  obtain ⟨c1, c2, c3, c4, c5, c6, c7⟩ := conv_pow
  have e1 : n = 1 → v = 0 := by rintro rfl; exact hv1 (by subst hA; exact c1)
  have e2 : (n = 2 ∨ n = 4 ∨ n = 8 ∨ n = 16 ∨ n = 32 ∨ n = 64) → 0 < v := by
    intro h
    apply hv2
    subst hA
    rcases h with rfl | rfl | rfl | rfl | rfl | rfl
    · exact .inl c2
    · exact .inr (.inl c3)
    · exact .inr (.inr (.inl c4))
    · exact .inr (.inr (.inr (.inl c5)))
    · exact .inr (.inr (.inr (.inr (.inl c6))))
    · exact .inr (.inr (.inr (.inr (.inr c7))))
  clear hv1 hv2 h1 h2
  cbv
  subst hQ hA
  refine ⟨⟨v, true, fun _ hle => ?_, by simp, rfl⟩, rfl⟩
  rcases f3 hle with h | h
  · rw [e1 h, h]; rfl
  · rw [ringOk, decide_eq_true h, decide_eq_true (e2 h)]

theorem ok_ringed (n : Int) : CallOK (O := Ob) PR n_plot_ringed [.dv (.int .i64 n)] [] fun r m => (∃ v, v = ringOk n ∧ r = .dv (.bool v)) ∧ m = [] := by
  refine fn_walk mixed fn_plot_ringed fun A P hA hP Q hQ => ?_
  cbv
  refine call_pure hP code_wrap_Log (ok_Log n) (by cbv; all_goals trivial) ?_
  rintro r ⟨l, ok, h1, h2, rfl⟩
  have hbig : ¬ n ≤ 64 → ringOk n = false := by
    intro h; simp only [ringOk, decide_eq_false_iff_not]; omega
  generalize hro : ringOk n = ro at *
  cbv
  refine bc_split (fun h3 => ?_) (fun h3 => ?_)
  · cbv
    refine bc_split (fun h4 => ?_) (fun h4 => ?_)
    · cbv
      subst hQ hA
      refine ⟨⟨_, ?_, rfl⟩, rfl⟩
      show std.cmp .leq n 64 = ro
      have h4 : 0 < l := by simpa using h4
      by_cases h5 : n ≤ 64
      · rw [h1 h3 h5]; simp [h4, h5]
      · rw [hbig h5]; simp [h5]
    · cbv
      subst hQ hA
      refine ⟨⟨false, ?_, rfl⟩, rfl⟩
      have h4 : ¬ 0 < l := by simpa using h4
      by_cases h5 : n ≤ 64
      · rw [h1 h3 h5]; simp [h4]
      · rw [hbig h5]
  · cbv
    subst hQ hA
    exact ⟨⟨false, (h2 h3).symm, rfl⟩, rfl⟩

end Go.Proofs.YtophlodlencgiaaDoor
