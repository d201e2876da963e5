/- Plain laws of 63-bit numbers: no program in sight. -/
import Derived.WalkKit
namespace Go.Proofs.Ytokjkmibnjfkaaa
open Go.RowKit

/-- 'n << 1 >> 1' as the walk spells it. -/
def wrap63 (n : Int) : Int := wrap64 (n * 2) / 2

theorem wrap63_eq (n : Int) : wrap63 n = (n + 4611686018427387904) % 9223372036854775808 - 4611686018427387904 := by
  unfold wrap63 wrap64; omega
theorem wrap63_bd (n : Int) : -4611686018427387904 ≤ wrap63 n ∧ wrap63 n ≤ 4611686018427387903 := by
  rw [wrap63_eq]; omega
theorem wrap63_q (n : Int) : ∃ q : Int, n = wrap63 n + q * 9223372036854775808 :=
  ⟨(n + 4611686018427387904) / 9223372036854775808, by rw [wrap63_eq]; omega⟩
theorem wrap63_congr {a b : Int} (q : Int) (h : a = b + q * 9223372036854775808) : wrap63 a = wrap63 b := by
  rw [wrap63_eq, wrap63_eq, h]; omega
theorem wrap64_q (n : Int) : ∃ q : Int, n = wrap64 n + q * 18446744073709551616 :=
  ⟨(n + 9223372036854775808) / 18446744073709551616, by unfold wrap64; omega⟩
theorem wrap63_wrap64 (n : Int) : wrap63 (wrap64 n) = wrap63 n := by
  obtain ⟨q, h⟩ := wrap64_q n
  exact (wrap63_congr (q * 2) (by omega)).symm
theorem wrap63_idem (n : Int) : wrap63 (wrap63 n) = wrap63 n := by
  obtain ⟨q, h⟩ := wrap63_q n
  exact (wrap63_congr q h).symm
theorem wrap63_self {n : Int} (h0 : -4611686018427387904 ≤ n) (h1 : n ≤ 4611686018427387903) : wrap63 n = n := by
  rw [wrap63_eq]; omega
theorem wrap63_self_iff (n : Int) : wrap63 n = n ↔ -4611686018427387904 ≤ n ∧ n ≤ 4611686018427387903 := by
  rw [wrap63_eq]; omega
theorem wrap63_add (a b : Int) : wrap63 (wrap63 a + wrap63 b) = wrap63 (a + b) := by
  obtain ⟨q, h⟩ := wrap63_q a
  obtain ⟨r, h'⟩ := wrap63_q b
  exact (wrap63_congr (q + r) (by omega)).symm
theorem wrap63_add_l (a b : Int) : wrap63 (wrap63 a + b) = wrap63 (a + b) := by
  obtain ⟨q, h⟩ := wrap63_q a
  exact (wrap63_congr q (by omega)).symm
theorem wrap63_add_r (a b : Int) : wrap63 (a + wrap63 b) = wrap63 (a + b) := by
  obtain ⟨q, h⟩ := wrap63_q b
  exact (wrap63_congr q (by omega)).symm
theorem wrap63_sub (a b : Int) : wrap63 (wrap63 a - wrap63 b) = wrap63 (a - b) := by
  obtain ⟨q, h⟩ := wrap63_q a
  obtain ⟨r, h'⟩ := wrap63_q b
  exact (wrap63_congr (q - r) (by omega)).symm
theorem wrap63_sub_l (a b : Int) : wrap63 (wrap63 a - b) = wrap63 (a - b) := by
  obtain ⟨q, h⟩ := wrap63_q a
  exact (wrap63_congr q (by omega)).symm
theorem wrap63_mul_l (a b : Int) : wrap63 (wrap63 a * b) = wrap63 (a * b) := by
  obtain ⟨q, h⟩ := wrap63_q a
  refine (wrap63_congr (q * b) ?_).symm
  conv => lhs; rw [h]
  rw [Int.add_mul, Int.mul_right_comm]
theorem wrap63_mul_r (a b : Int) : wrap63 (a * wrap63 b) = wrap63 (a * b) := by
  rw [Int.mul_comm, wrap63_mul_l, Int.mul_comm]

theorem and_one (x : Int) : bits BinOp.and IntKind.i64 x 1 = x % 2 := by
  have h1 : (BitVec.ofInt 64 x &&& BitVec.ofInt 64 1).toNat = (x % 2).toNat := by
    rw [BitVec.toNat_and]
    have e1 : (BitVec.ofInt 64 (1 : Int)).toNat = 1 := by decide
    rw [e1, Nat.and_one_is_mod, BitVec.toNat_ofInt]
    omega
  have e : bits BinOp.and IntKind.i64 x 1 = IntKind.i64.wrap ((BitVec.ofInt 64 x &&& BitVec.ofInt 64 1).toNat : Int) := rfl
  rw [e, h1, IntWalk.i64_in _ (by omega)]
  omega

/-- One round of the multiplication by shifts: the bit is set. -/
theorem mul_bit_one (a b : Int) (k : Nat) (h : b / 2 ^ k % 2 = 1) : a * (b % 2 ^ (k + 1)) = a * (b % 2 ^ k) + a * 2 ^ k := by
  have hp : (0 : Int) < 2 ^ k := Int.pow_pos (by decide)
  have e : b % 2 ^ (k + 1) = b % 2 ^ k + 2 ^ k := by
    have e1 := Int.emod_add_mul_ediv b (2 ^ k)
    have e2 := Int.emod_add_mul_ediv (b / 2 ^ k) 2
    rw [h] at e2
    have e3 : b = (b % 2 ^ k + 2 ^ k) + (2 ^ (k + 1)) * (b / 2 ^ k / 2) := by
      conv => lhs; rw [← e1, ← e2]
      rw [Int.pow_succ, Int.mul_add, Int.mul_one, Int.mul_assoc, Int.add_assoc]
    conv => lhs; rw [e3]
    rw [Int.add_mul_emod_self_left]
    refine Int.emod_eq_of_lt ?_ ?_
    · have := Int.emod_nonneg b (by omega : (2 : Int) ^ k ≠ 0); omega
    · have := Int.emod_lt_of_pos b hp
      rw [Int.pow_succ]; omega
  rw [e, Int.mul_add]
theorem mul_bit_zero (a b : Int) (k : Nat) (h : ¬ b / 2 ^ k % 2 = 1) : a * (b % 2 ^ (k + 1)) = a * (b % 2 ^ k) := by
  have hp : (0 : Int) < 2 ^ k := Int.pow_pos (by decide)
  have e : b % 2 ^ (k + 1) = b % 2 ^ k := by
    have h0 : b / 2 ^ k % 2 = 0 := by omega
    have e1 := Int.emod_add_mul_ediv b (2 ^ k)
    have e2 := Int.emod_add_mul_ediv (b / 2 ^ k) 2
    rw [h0, Int.zero_add] at e2
    have e3 : b = (b % 2 ^ k) + (2 ^ (k + 1)) * (b / 2 ^ k / 2) := by
      conv => lhs; rw [← e1, ← e2]
      rw [Int.pow_succ, Int.mul_assoc]
    conv => lhs; rw [e3]
    rw [Int.add_mul_emod_self_left]
    refine Int.emod_eq_of_lt ?_ ?_
    · have := Int.emod_nonneg b (by omega : (2 : Int) ^ k ≠ 0); omega
    · have := Int.emod_lt_of_pos b hp
      rw [Int.pow_succ]; omega
  rw [e]
theorem mul_last (a b : Int) : wrap63 (a * (b % 2 ^ 63)) = wrap63 (a * b) := by
  refine (wrap63_congr (a * (b / 2 ^ 63)) ?_).symm
  have := Int.emod_add_mul_ediv b (2 ^ 63)
  conv => lhs; rw [← this]
  rw [Int.mul_add, Int.mul_comm (2 ^ 63) (b / 2 ^ 63), ← Int.mul_assoc]
  rfl


theorem wrap64_congr {a b : Int} (q : Int) (h : a = b + q * 18446744073709551616) : wrap64 a = wrap64 b := by
  unfold wrap64; rw [h]; omega
theorem wrap64_self {n : Int} (h0 : -9223372036854775808 ≤ n) (h1 : n ≤ 9223372036854775807) : wrap64 n = n := by
  unfold wrap64; omega
theorem wrap64_mul_l (a b : Int) : wrap64 (wrap64 a * b) = wrap64 (a * b) := by
  obtain ⟨q, h⟩ := wrap64_q a
  refine (wrap64_congr (q * b) ?_).symm
  conv => lhs; rw [h]
  rw [Int.add_mul, Int.mul_right_comm]
theorem wrap64_sub_r (a b : Int) : wrap64 (a - wrap64 b) = wrap64 (a - b) := by
  obtain ⟨q, h⟩ := wrap64_q b
  exact (wrap64_congr (-q) (by omega)).symm
theorem natAbs_tmod_le (a b : Int) : (a.tmod b).natAbs ≤ a.natAbs := by
  rw [Int.natAbs_tmod]; exact Nat.mod_le _ _
theorem rem_eq (a b : Int) (h0 : -4611686018427387904 ≤ a) (h1 : a ≤ 4611686018427387903) :
    wrap64 (a - wrap64 (wrap64 (a.tdiv b) * b)) = a.tmod b := by
  rw [wrap64_mul_l, wrap64_sub_r]
  have e := Int.tmod_def a b
  have h := natAbs_tmod_le a b
  rw [Int.mul_comm, ← e]
  exact wrap64_self (by omega) (by omega)
theorem tmod_bd (a b : Int) (h0 : -4611686018427387904 ≤ a) (h1 : a ≤ 4611686018427387903) : -4611686018427387904 ≤ a.tmod b ∧ a.tmod b ≤ 4611686018427387904 := by
  have h := natAbs_tmod_le a b
  omega
theorem wf_i64 {a : Int} (h : (Lit.int .i64 a).wf = true) : -9223372036854775808 ≤ a ∧ a ≤ 9223372036854775807 := by
  simp only [Lit.wf, IntKind.min, IntKind.max, IntKind.signed, IntKind.bits, Bool.and_eq_true, decide_eq_true_eq, if_true] at h
  omega
end Go.Proofs.Ytokjkmibnjfkaaa
