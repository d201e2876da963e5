/- What the number functions of both texts return: Wrap, AddW, SubW, MulW, DivW, RemW. -/
import Derived.Test.YtokjkmibnjfkaaaProg
import Derived.Test.YtokjkmibnjfkaaaNum
import Derived.WalkKit
import Derived.Lib.Hide
namespace Go.Proofs.Ytokjkmibnjfkaaa
open Go.RowKit

theorem spec_Wrap (w : World) (n : Int) : Calls Try.prog 76 #[.int .i64 n] w fun e w' => e = .returned (.int .i64 (wrap63 n)) ∧ w = w' := by
  go_enter Try.func76, Try.ntmps76
  go_wp2
  go_ret
  exact ⟨rfl, rfl⟩
theorem ret_i {a b : Int} (h : a = b) : Ending.returned (.int .i64 a) = .returned (.int .i64 b) := by rw [h]
theorem ret_ib {a b : Int} {x : Bool} (h : a = b) : Ending.returned (.tuple #[.int .i64 a, .bool x]) = .returned (.tuple #[.int .i64 b, .bool x]) := by rw [h]
theorem val_i {a b : Int} (h : a = b) : Value.int .i64 a = .int .i64 b := by rw [h]
end Go.Proofs.Ytokjkmibnjfkaaa
