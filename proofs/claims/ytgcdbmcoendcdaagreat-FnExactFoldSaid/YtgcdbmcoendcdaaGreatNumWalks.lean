import Derived.Test.YtgcdbmcoendcdaaGreatProg
import Derived.Test.YtgcdbmcoendcdaaGreatBase
import Derived.WalkKit
import Derived.Lib.Hide
import Derived.Test.YtgcdbmcoendcdaaGreatDecB
/- What the number functions of both texts return: Wrap, AddW, SubW, MulW, DivW, RemW. -/
namespace Go.Proofs.YtgcdbmcoendcdaaGreat
open Go.RowKit

theorem impl_Wrap (w : World) (n : Int) : Calls Tryz.prog 253 #[.int .i64 n] w fun e w' => e = .returned (.int .i64 (wrap63 n)) ∧ w = w' := by
  go_enter Tryz.func253, Tryz.ntmps253
  go_wp2
  go_ret
  exact ⟨rfl, rfl⟩
theorem spec_AddW (w : World) (a b : Int) : Calls Tryz.prog 212 #[.int .i64 a, .int .i64 b] w fun e w' => e = .returned (.int .i64 (wrap63 (a + b))) ∧ w = w' := by
  go_enter Tryz.func212, Tryz.ntmps212
  go_wp2_with (go_at_call 250; refine (spec_Wrap _ _).mono ?_; rintro e w' ⟨rfl, rfl⟩)
  go_ret
  exact ⟨ret_i (by rw [wrap63_wrap64, wrap63_add]), rfl⟩
theorem impl_AddW (w : World) (a b : Int) : Calls Tryz.prog 223 #[.int .i64 a, .int .i64 b] w fun e w' => e = .returned (.int .i64 (wrap63 (a + b))) ∧ w = w' := by
  go_enter Tryz.func223, Tryz.ntmps223
  go_wp2_with (go_at_call 253; refine (impl_Wrap _ _).mono ?_; rintro e w' ⟨rfl, rfl⟩)
  go_ret
  exact ⟨ret_i (by rw [wrap63_wrap64]), rfl⟩
theorem spec_SubW (w : World) (a b : Int) : Calls Tryz.prog 213 #[.int .i64 a, .int .i64 b] w fun e w' => e = .returned (.int .i64 (wrap63 (a - b))) ∧ w = w' := by
  go_enter Tryz.func213, Tryz.ntmps213
  go_wp2_with (go_at_call 250; refine (spec_Wrap _ _).mono ?_; rintro e w' ⟨rfl, rfl⟩)
  go_ret
  exact ⟨ret_i (by rw [wrap63_wrap64, wrap63_sub]), rfl⟩
theorem impl_SubW (w : World) (a b : Int) : Calls Tryz.prog 224 #[.int .i64 a, .int .i64 b] w fun e w' => e = .returned (.int .i64 (wrap63 (a - b))) ∧ w = w' := by
  go_enter Tryz.func224, Tryz.ntmps224
  go_wp2_with (go_at_call 253; refine (impl_Wrap _ _).mono ?_; rintro e w' ⟨rfl, rfl⟩)
  go_ret
  exact ⟨ret_i (by rw [wrap63_wrap64]), rfl⟩
theorem impl_MulW (w : World) (a b : Int) : Calls Tryz.prog 225 #[.int .i64 a, .int .i64 b] w fun e w' => e = .returned (.int .i64 (wrap63 (a * b))) ∧ w = w' := by
  go_enter Tryz.func225, Tryz.ntmps225
  go_wp2_with (go_at_call 253; refine (impl_Wrap _ _).mono ?_; rintro e w' ⟨rfl, rfl⟩)
  go_ret
  exact ⟨ret_i (by rw [wrap63_wrap64]), rfl⟩

theorem spec_MulW (w : World) (a b : Int) : Calls Tryz.prog 214 #[.int .i64 a, .int .i64 b] w fun e w' => e = .returned (.int .i64 (wrap63 (a * b))) ∧ w = w' := by
  go_enter Tryz.func214, Tryz.ntmps214
  go_wp2_with (go_at_call 250; refine (spec_Wrap _ _).mono ?_; rintro e w' ⟨rfl, rfl⟩)
  go_loop [5, 6, 7] (fun o x i => ∃ k : Nat, k ≤ 63 ∧ i = .int .i64 k ∧ o = .int .i64 (wrap63 (a * (b % 2^k))) ∧ x = .int .i64 (wrap63 (a * 2^k))) (fun _ _ i => (63 - (intOf i)).toNat)
  case atStart => exact ⟨0, by omega, rfl, val_i (by rw [Int.pow_zero, Int.emod_one, Int.mul_zero, wrap63_self (by omega) (by omega)]), val_i (by rw [Int.pow_zero, Int.mul_one])⟩
  case round =>
    obtain ⟨k, hk, rfl, rfl, rfl⟩ := hrel
    by_cases hlt : k < 63
    · have h2 : a * 2 ^ (k + 1) = a * 2 ^ k + a * 2 ^ k := by rw [Int.pow_succ, ← Int.mul_assoc]; omega
      have H2 := Lib.hid h2
      clear h2
      by_cases hb : b / 2 ^ k % 2 = 1
      · have ht : (bits BinOp.and IntKind.i64 (b / 2 ^ k) 1 == 1) = true := by rw [and_one]; simp [hb]
        have H1 := Lib.hid (mul_bit_one a b k hb)
        clear hb
        go_wp2_with (go_at_call 212; refine (spec_AddW _ _ _).mono ?_; rintro e w' ⟨rfl, rfl⟩)
        go_round
        case rel => exact ⟨k + 1, by omega, by go_num, val_i (by rw [H1.out, wrap63_add]), val_i (by rw [H2.out, wrap63_add])⟩
        case measure => simp [intOf]; omega
      · have ht : (bits BinOp.and IntKind.i64 (b / 2 ^ k) 1 == 1) = false := by rw [and_one]; simpa using hb
        have H1 := Lib.hid (mul_bit_zero a b k hb)
        clear hb
        go_wp2_with (go_at_call 212; refine (spec_AddW _ _ _).mono ?_; rintro e w' ⟨rfl, rfl⟩)
        go_round
        case rel => exact ⟨k + 1, by omega, by go_num, val_i (by rw [H1.out]), val_i (by rw [H2.out, wrap63_add])⟩
        case measure => simp [intOf]; omega
    · obtain rfl : k = 63 := by omega
      go_wp2
      go_ret
      exact ⟨ret_i (mul_last a b), rfl⟩

theorem spec_DivW_zero (w : World) (a b : Int) (h : (wrap63 b == 0) = true) : Calls Tryz.prog 215 #[.int .i64 a, .int .i64 b] w fun e w' => e = .returned (.tuple #[.int .i64 0, .bool false]) ∧ w = w' := by
  go_enter Tryz.func215, Tryz.ntmps215
  go_wp2_with (go_at_call 250; refine (spec_Wrap _ _).mono ?_; rintro e w' ⟨rfl, rfl⟩)
  go_ret2
  exact ⟨rfl, rfl⟩
theorem spec_DivW (w : World) (a b : Int) (h : (wrap63 b == 0) = false) : Calls Tryz.prog 215 #[.int .i64 a, .int .i64 b] w fun e w' => e = .returned (.tuple #[.int .i64 (wrap63 ((wrap63 a).tdiv (wrap63 b))), .bool true]) ∧ w = w' := by
  have hn : ¬ wrap63 b = 0 := by simpa using h
  go_enter Tryz.func215, Tryz.ntmps215
  go_wp2_with (go_at_call 250; refine (spec_Wrap _ _).mono ?_; rintro e w' ⟨rfl, rfl⟩)
  go_ret2
  exact ⟨ret_ib (by rw [wrap63_wrap64]), rfl⟩
theorem impl_DivW_zero (w : World) (a b : Int) (h : (wrap63 b == 0) = true) : Calls Tryz.prog 226 #[.int .i64 a, .int .i64 b] w fun e w' => e = .returned (.tuple #[.int .i64 0, .bool false]) ∧ w = w' := by
  go_enter Tryz.func226, Tryz.ntmps226
  go_wp2_with (go_at_call 253; refine (impl_Wrap _ _).mono ?_; rintro e w' ⟨rfl, rfl⟩)
  go_ret2
  exact ⟨rfl, rfl⟩
theorem impl_DivW (w : World) (a b : Int) (h : (wrap63 b == 0) = false) : Calls Tryz.prog 226 #[.int .i64 a, .int .i64 b] w fun e w' => e = .returned (.tuple #[.int .i64 (wrap63 ((wrap63 a).tdiv (wrap63 b))), .bool true]) ∧ w = w' := by
  have hn : ¬ wrap63 b = 0 := by simpa using h
  go_enter Tryz.func226, Tryz.ntmps226
  go_wp2_with (go_at_call 253; refine (impl_Wrap _ _).mono ?_; rintro e w' ⟨rfl, rfl⟩)
  go_ret2
  exact ⟨ret_ib (by rw [wrap63_wrap64]), rfl⟩

theorem spec_RemW_zero (w : World) (a b : Int) (h : (wrap63 b == 0) = true) : Calls Tryz.prog 216 #[.int .i64 a, .int .i64 b] w fun e w' => e = .returned (.tuple #[.int .i64 0, .bool false]) ∧ w = w' := by
  go_enter Tryz.func216, Tryz.ntmps216
  go_wp2_with (go_at_call 250; refine (spec_Wrap _ _).mono ?_; rintro e w' ⟨rfl, rfl⟩)
  go_ret2
  exact ⟨rfl, rfl⟩
theorem spec_RemW (w : World) (a b : Int) (h : (wrap63 b == 0) = false) : Calls Tryz.prog 216 #[.int .i64 a, .int .i64 b] w fun e w' => e = .returned (.tuple #[.int .i64 ((wrap63 a).tmod (wrap63 b)), .bool true]) ∧ w = w' := by
  have hn : ¬ wrap63 b = 0 := by simpa using h
  go_enter Tryz.func216, Tryz.ntmps216
  go_wp2_with (go_at_call 250; refine (spec_Wrap _ _).mono ?_; rintro e w' ⟨rfl, rfl⟩)
  go_ret2
  exact ⟨ret_ib (rem_eq _ _ (wrap63_bd a).1 (wrap63_bd a).2), rfl⟩

theorem impl_RemW_zero (w : World) (a b : Int) (h : (wrap63 b == 0) = true) : Calls Tryz.prog 227 #[.int .i64 a, .int .i64 b] w fun e w' => e = .returned (.tuple #[.int .i64 0, .bool false]) ∧ w = w' := by
  go_enter Tryz.func227, Tryz.ntmps227
  go_wp2_with (go_at_call 253; refine (impl_Wrap _ _).mono ?_; rintro e w' ⟨rfl, rfl⟩)
  go_ret2
  exact ⟨rfl, rfl⟩
theorem impl_RemW (w : World) (a b : Int) (h : (wrap63 b == 0) = false) : Calls Tryz.prog 227 #[.int .i64 a, .int .i64 b] w fun e w' => e = .returned (.tuple #[.int .i64 ((wrap63 a).tmod (wrap63 b)), .bool true]) ∧ w = w' := by
  have hn : ¬ wrap63 b = 0 := by simpa using h
  go_enter Tryz.func227, Tryz.ntmps227
  go_wp2_with (go_at_call 253; refine (impl_Wrap _ _).mono ?_; rintro e w' ⟨rfl, rfl⟩)
  go_ret2
  exact ⟨rfl, rfl⟩
end Go.Proofs.YtgcdbmcoendcdaaGreat
