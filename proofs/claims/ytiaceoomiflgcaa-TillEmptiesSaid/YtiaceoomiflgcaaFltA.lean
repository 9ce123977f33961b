/-
  Floats: whole numbers of sixteen bits are themselves as floats.
-/
import Derived.Test.YtiaceoomiflgcaaVceG
import Derived.KernelRfl
namespace Go.V
open Ieee
set_option maxRecDepth 100000

/-- A word as a float. -/
def flt (n : Nat) : Nat := FloatKind.f64.nearest (n : Int)

theorem cut0 (n e : Nat) : Ieee.Toward.even.cut false (n <<< e) 0 = n * 2 ^ e := by
  unfold Ieee.Toward.cut
  rw [Nat.zero_min, Nat.shiftLeft_eq, Nat.shiftLeft_eq]
  simp [Nat.mod_one]

theorem flt_bits {n L : Nat} (hL : n.log2 = L) (hn : n ≠ 0) (h15 : L ≤ 15) : flt n = (L + 1022) * 4503599627370496 + n * 2 ^ (52 - L) ∧ 4503599627370496 ≤ n * 2 ^ (52 - L) ∧ n * 2 ^ (52 - L) < 9007199254740992 := by
  have h1 : 2 ^ L ≤ n := hL ▸ Nat.log2_self_le hn
  have h2 : n < 2 ^ (L + 1) := hL ▸ Nat.lt_log2_self
  have e1 : 2 ^ L * 2 ^ (52 - L) = 4503599627370496 := by rw [← Nat.pow_add, Nat.add_sub_cancel' (by omega)]
  have e2 : 2 ^ (L + 1) * 2 ^ (52 - L) = 9007199254740992 := by rw [Nat.pow_succ, Nat.mul_right_comm, e1]
  have h3 : 2 ^ L * 2 ^ (52 - L) ≤ n * 2 ^ (52 - L) := Nat.mul_le_mul_right _ h1
  have h4 : n * 2 ^ (52 - L) < 2 ^ (L + 1) * 2 ^ (52 - L) := Nat.mul_lt_mul_of_pos_right h2 (Nat.two_pow_pos _)
  refine ⟨?_, by omega, by omega⟩
  have hneg : decide ((n : Int) < 0) = false := by simp
  show Ieee.double.write (.number (decide ((n : Int) < 0)) ((n : Int)).natAbs 0) = _
  rw [hneg]
  show Ieee.double.nearest false n 0 = _
  unfold Ieee.Format.nearest
  rw [if_neg hn, hL]
  have hlast : max ((0 : Int) + (L : Int) - (Ieee.double.fractionBits : Int)) (-1074) = (L : Int) - 52 := by
    have e' : (Ieee.double.fractionBits : Int) = 52 := rfl
    rw [e']; omega
  have hleast : Ieee.double.leastPlace = -1074 := by decide
  have hinf : Ieee.double.infRung = 2047 * 4503599627370496 := by decide
  have hbin : Ieee.double.binade = 4503599627370496 := by decide
  simp only [hleast, hlast, hinf, hbin]
  have a1 : ((0 : Int) - ((L : Int) - 52)).toNat = 52 - L := by omega
  have a2 : ((L : Int) - 52 - 0).toNat = 0 := by omega
  have a3 : ((L : Int) - 52 - -1074).toNat = L + 1022 := by omega
  rw [a1, a2, a3]
  rw [cut0]
  generalize n * 2 ^ (52 - L) = q at *
  rw [Nat.min_eq_left (by omega)]
  rfl

theorem flt_read {n L : Nat} (hL : n.log2 = L) (hn : n ≠ 0) (h15 : L ≤ 15) : Ieee.double.read (flt n) = .number false (n * 2 ^ (52 - L)) ((L : Int) - 52) := by
  obtain ⟨h1, h2, h3⟩ := flt_bits hL hn h15
  rw [h1]
  generalize n * 2 ^ (52 - L) = q at *
  have hsw : Ieee.double.signWeight = 9223372036854775808 := by decide
  have hleast : Ieee.double.leastPlace = -1074 := by decide
  have hinf : Ieee.double.infRung = 2047 * 4503599627370496 := by decide
  have hbin : Ieee.double.binade = 4503599627370496 := by decide
  unfold Ieee.Format.read
  simp only [hsw, hleast, hinf, hbin]
  have b1 : ((L + 1022) * 4503599627370496 + q) / 9223372036854775808 % 2 = 0 := by omega
  have b2 : ((L + 1022) * 4503599627370496 + q) % 9223372036854775808 = (L + 1022) * 4503599627370496 + q := by omega
  rw [b1, b2, if_neg (by omega), if_pos (by omega)]
  have b3 : ((L + 1022) * 4503599627370496 + q) / 4503599627370496 = L + 1023 := by omega
  have b4 : 4503599627370496 + ((L + 1022) * 4503599627370496 + q) % 4503599627370496 = q := by omega
  rw [b3, b4]
  congr 1
  omega

theorem flt_zero : flt 0 = 0 := by
  show Ieee.double.nearest (decide ((0 : Int) < 0)) 0 0 = 0
  unfold Ieee.Format.nearest
  rfl

theorem log2_le {n : Nat} (h : n < 65536) (hn : n ≠ 0) : n.log2 ≤ 15 := by
  have := (Nat.log2_lt hn (k := 16)).2 (by omega)
  omega

theorem cmp_mul (a b e : Nat) : compare ((a * 2 ^ e : Nat) : Int) ((b * 2 ^ e : Nat) : Int) = compare a b := by
  have h : 0 < 2 ^ e := Nat.two_pow_pos e
  rcases Nat.lt_trichotomy a b with h1 | h1 | h1
  · have h2 : a * 2 ^ e < b * 2 ^ e := Nat.mul_lt_mul_of_pos_right h1 h
    rw [Nat.compare_eq_lt.2 h1]
    exact Int.compare_eq_lt.2 (by omega)
  · subst h1; simp
  · have h2 : b * 2 ^ e < a * 2 ^ e := Nat.mul_lt_mul_of_pos_right h1 h
    rw [Nat.compare_eq_gt.2 h1]
    exact Int.compare_eq_gt.2 (by omega)

/-- A word as a float is so many units at a place below. -/
theorem flt_num {n : Nat} (h : n < 65536) : ∃ (q : Nat) (p : Int), Ieee.double.read (flt n) = .number false q p ∧ p ≤ 0 ∧ ∀ b : Int, b ≤ p → q * 2 ^ (p - b).toNat = n * 2 ^ (-b).toNat := by
  by_cases hn : n = 0
  · subst hn
    exact ⟨0, -1074, by rw [flt_zero]; kernel_rfl, by omega, fun b _ => by simp⟩
  · have hl := log2_le h hn
    refine ⟨_, _, flt_read rfl hn hl, by omega, fun b hb => ?_⟩
    rw [Nat.mul_assoc, ← Nat.pow_add]
    congr 2
    omega

theorem order_flt {n m : Nat} (h : n < 65536) (h' : m < 65536) : Ieee.double.order (flt n) (flt m) = some (compare n m) := by
  obtain ⟨q, p, h1, h2, h3⟩ := flt_num h
  obtain ⟨q', p', k1, k2, k3⟩ := flt_num h'
  unfold Ieee.Format.order
  rw [h1, k1]
  simp only [Ieee.Datum.order, Option.some.injEq]
  have e1 := h3 (min p p') (by omega)
  have e2 := k3 (min p p') (by omega)
  simp only [Ieee.signed, Bool.false_eq_true, if_false, Nat.shiftLeft_eq]
  rw [e1, e2]
  exact cmp_mul n m _

theorem fcmp_flt {n m : Nat} (h : n < 65536) (h' : m < 65536) : fcmpF .eql .f64 (flt n) (flt m) = decide (n = m) ∧ fcmpF .geq .f64 (flt n) (flt m) = decide (m ≤ n) ∧ fcmpF .leq .f64 (flt n) (flt m) = decide (n ≤ m) := by
  have e : FloatKind.f64.format.order (flt n) (flt m) = some (compare n m) := order_flt h h'
  simp only [fcmpF, e]
  rcases Nat.lt_trichotomy n m with h1 | h1 | h1
  · rw [Nat.compare_eq_lt.2 h1]; refine ⟨?_, ?_, ?_⟩ <;> simp <;> omega
  · subst h1; rw [Nat.compare_eq_eq.2 rfl]; simp
  · rw [Nat.compare_eq_gt.2 h1]; refine ⟨?_, ?_, ?_⟩ <;> simp <;> omega

theorem f2i_flt {n : Nat} (h : n < 65536) : f2iF .f64 (flt n) = some (n : Int) := by
  by_cases hn : n = 0
  · subst hn; rw [flt_zero]; kernel_rfl
  · have hl := log2_le h hn
    unfold f2iF
    show (Ieee.double.read (flt n)).toInt .zero = _
    rw [flt_read rfl hn hl]
    obtain ⟨_, q1, q2⟩ := flt_bits (n := n) rfl hn hl
    unfold Ieee.Datum.toInt Ieee.Datum.integral
    have a1 : (((n.log2 : Int)) - 52).toNat = 0 := by omega
    have a2 : (-((n.log2 : Int) - 52)).toNat = 52 - n.log2 := by omega
    simp only [a1, a2]
    have hlog : ((n * 2 ^ (52 - n.log2)) <<< 0).log2 = 52 := by
      rw [Nat.shiftLeft_zero]
      exact (Nat.log2_eq_iff (by omega)).2 ⟨by omega, by omega⟩
    have hcut : Ieee.Toward.zero.cut false ((n * 2 ^ (52 - n.log2)) <<< 0) (52 - n.log2) = n := by
      unfold Ieee.Toward.cut
      rw [hlog]
      have hm : min (52 - n.log2) (52 + 2) = 52 - n.log2 := by omega
      simp only [hm]
      rw [Nat.shiftLeft_zero, Nat.shiftLeft_eq, Nat.one_mul, Nat.mul_div_cancel _ (Nat.two_pow_pos _)]
      simp
    rw [hcut]
    simp [Ieee.signed]

theorem flt_last : flt 65535 = 4679239875398991872 := by kernel_rfl

theorem partO_flt {n : Nat} (h : n < 65536) : partO (flt n) = some (n : Int) := by
  obtain ⟨_, h1, _⟩ := fcmp_flt h (show 0 < 65536 by omega)
  obtain ⟨_, _, h2⟩ := fcmp_flt h (show 65535 < 65536 by omega)
  rw [flt_zero] at h1
  rw [flt_last] at h2
  have e1 : fcmpF .geq .f64 (flt n) 0 = true := by rw [h1]; simp
  have e2 : fcmpF .leq .f64 (flt n) 4679239875398991872 = true := by rw [h2]; simp; omega
  have e3 : (decide (IntKind.i64.min ≤ (n : Int)) && decide ((n : Int) ≤ IntKind.i64.max)) = true := by
    have a1 : IntKind.i64.min = -9223372036854775808 := by decide
    have a2 : IntKind.i64.max = 9223372036854775807 := by decide
    rw [a1, a2]; simp; omega
  have e4 : fcmpF .eql .f64 (FloatKind.f64.nearest (n : Int)) (flt n) = true := by
    show fcmpF .eql .f64 (flt n) (flt n) = true
    rw [(fcmp_flt h h).1]; simp
  unfold partO
  simp only [e1, e2, f2i_flt h, e3, e4]

theorem partsO_flt {a w : Nat} (ha : a < 65536) (hw : w < 65536) : partsO (flt a, flt w) = some (some ((a : Int), (w : Int))) := by
  unfold partsO
  simp only [partO_flt ha, partO_flt hw]
  have : (decide ((a : Int) < 0) || decide ((w : Int) < 0)) = false := by simp
  rw [this]

end Go.V
