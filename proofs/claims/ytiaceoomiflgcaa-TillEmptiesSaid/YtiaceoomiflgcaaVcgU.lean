/-
  What the arithmetic under names comes to.
-/
import Derived.Test.YtiaceoomiflgcaaVcgT
namespace Go.V

theorem w64 (n : Int) : IntKind.i64.wrap n = (n + 9223372036854775808) % 18446744073709551616 - 9223372036854775808 := by
  show (if (true && decide (n % (2 ^ 64 : Int) ≥ (2 ^ 63 : Int))) = true then n % (2 ^ 64 : Int) - (2 ^ 64 : Int) else n % (2 ^ 64 : Int)) = _
  simp only [Bool.true_and, decide_eq_true_eq, show (2 : Int) ^ 64 = 18446744073709551616 from by decide, show (2 : Int) ^ 63 = 9223372036854775808 from by decide]
  split <;> omega

theorem w64_in {n : Int} (h : -9223372036854775808 ≤ n ∧ n ≤ 9223372036854775807) : IntKind.i64.wrap n = n := by rw [w64]; omega

@[simp] theorem std_add (k : IntKind) (a b : Int) : std.bin .add k a b = k.wrap (a + b) := rfl
@[simp] theorem std_sub (k : IntKind) (a b : Int) : std.bin .sub k a b = k.wrap (a - b) := rfl
@[simp] theorem std_mul (k : IntKind) (a b : Int) : std.bin .mul k a b = k.wrap (a * b) := rfl
@[simp] theorem std_quo (k : IntKind) (a b : Int) : std.bin .quo k a b = k.wrap (a.tdiv b) := rfl
@[simp] theorem std_rem (k : IntKind) (a b : Int) : std.bin .rem k a b = a.tmod b := rfl
@[simp] theorem std_shl (k : IntKind) (a b : Int) : std.bin .shl k a b = k.wrap (a * 2 ^ (min b.toNat k.bits)) := rfl
@[simp] theorem std_shr (k : IntKind) (a b : Int) : std.bin .shr k a b = a.fdiv (2 ^ (min b.toNat k.bits)) := rfl
@[simp] theorem std_neg (k : IntKind) (a : Int) : std.un .neg k a = k.wrap (0 - a) := rfl
@[simp] theorem std_conv (k : IntKind) (a : Int) : std.conv k a = k.wrap a := rfl
@[simp] theorem std_ofN (n : Nat) : std.ofN n = (n : Int) := rfl
@[simp] theorem std_toN (i : Int) : std.toN i = i.toNat := rfl
@[simp] theorem std_addN (a b : Nat) : std.add a b = a + b := rfl
@[simp] theorem std_subN (a b : Nat) : std.sub a b = a - b := rfl
@[simp] theorem std_bnot (b : Bool) : std.bnot b = !b := rfl
@[simp] theorem std_beq (a b : Bool) : std.beq a b = (a == b) := rfl
@[simp] theorem std_eql (a b : Int) : std.cmp .eql a b = decide (a = b) := by show (a == b) = _; by_cases h : a = b <;> simp [h]
@[simp] theorem std_neq (a b : Int) : std.cmp .neq a b = decide (a ≠ b) := by show (a != b) = _; by_cases h : a = b <;> simp [h]
@[simp] theorem std_lss (a b : Int) : std.cmp .lss a b = decide (a < b) := rfl
@[simp] theorem std_leq (a b : Int) : std.cmp .leq a b = decide (a ≤ b) := rfl
@[simp] theorem std_gtr (a b : Int) : std.cmp .gtr a b = decide (b < a) := rfl
@[simp] theorem std_geq (a b : Int) : std.cmp .geq a b = decide (b ≤ a) := rfl
@[simp] theorem std_inb (i : Int) (n : Nat) : std.inb i n = (0 ≤ i ∧ i < (n : Int)) := rfl
@[simp] theorem std_nz (i : Int) : std.nz i = (i ≠ 0) := rfl
@[simp] theorem std_nneg (i : Int) : std.nneg i = (0 ≤ i) := rfl
@[simp] theorem std_lt (a b : Nat) : std.lt a b = (a < b) := rfl
@[simp] theorem std_le (a b : Nat) : std.le a b = (a ≤ b) := rfl
@[simp] theorem std_room (n b : Nat) : std.room n b = (n ≤ maxN ∧ n * b ≤ 140737488355328) := rfl
@[simp] theorem std_slb (l h m c : Int) : std.slb l h m c = (0 ≤ l ∧ l ≤ h ∧ h ≤ m ∧ m ≤ c) := rfl
@[simp] theorem std_slen (s : ByteArray) : std.slen s = s.size := rfl

theorem and_mask (a : Int) (k : Nat) (hk : k < 63) : std.bin .and .i64 a (2 ^ k - 1 : Nat) = a % (2 ^ k : Nat) := by
  show IntKind.i64.wrap ((BitVec.ofInt 64 a &&& BitVec.ofInt 64 ((2 ^ k - 1 : Nat) : Int)).toNat : Int) = _
  have h2 : (2 : Nat) ^ k < 2 ^ 63 := Nat.pow_lt_pow_right (by omega) hk
  have h1 : 0 < (2 : Nat) ^ k := Nat.pos_of_ne_zero (by simp)
  have e : (BitVec.ofInt 64 ((2 ^ k - 1 : Nat) : Int)).toNat = 2 ^ k - 1 := by
    rw [BitVec.toNat_ofInt]
    omega
  rw [BitVec.toNat_and, e, Nat.and_two_pow_sub_one_eq_mod, BitVec.toNat_ofInt]
  have h3 : (a % (2 ^ 64 : Nat)).toNat % 2 ^ k = (a % (2 ^ k : Nat)).toNat := by
    have hd : ((2 : Nat) ^ k) ∣ 2 ^ 64 := Nat.pow_dvd_pow 2 (by omega)
    have h4 : (a % ((2 ^ 64 : Nat) : Int)) % ((2 ^ k : Nat) : Int) = a % ((2 ^ k : Nat) : Int) := Int.emod_emod_of_dvd a (Int.natCast_dvd_natCast.2 hd)
    have h5 : 0 ≤ a % ((2 ^ 64 : Nat) : Int) := Int.emod_nonneg _ (by simp)
    rw [← h4, Int.toNat_emod h5 (by omega), Int.toNat_natCast]
  rw [h3]
  have h6 : 0 ≤ a % ((2 ^ k : Nat) : Int) := Int.emod_nonneg _ (by omega)
  have h7 : a % ((2 ^ k : Nat) : Int) < (2 ^ k : Nat) := Int.emod_lt_of_pos _ (by omega)
  rw [w64_in] <;> omega

theorem and_word (a : Int) : std.bin .and .i64 a 65535 = a % 65536 := and_mask a 16 (by decide)

end Go.V
