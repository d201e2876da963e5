/- Constructors and their children: both texts. -/
import Derived.Test.YtokjkmibnjfkaaaStrWalks
import Derived.Test.YtokjkmibnjfkaaaMem
namespace Go.Proofs.Ytokjkmibnjfkaaa
set_option linter.unusedVariables false
set_option linter.unusedSimpArgs false
open Go.RowKit
def shapeM (s : ByteArray) (k : Nat) (pair : Bool) : Bool :=
  if s.toList == [116, 114, 117, 101] || s.toList == [102, 97, 108, 115, 101] || s.toList == [91, 93] then (k : Int) == 0
  else if s.toList == [58, 58] then ((k : Int) == 1) && pair
  else conM s.data.toList && decide ((k : Int) ≤ 1)
set_option maxRecDepth 100000 in
set_option maxHeartbeats 2000000 in
theorem impl_conShape (w : World) (s : ByteArray) (hs : s.size ≤ maxLen) (k : Nat) (pair : Bool) :
    Calls Try.prog 113 #[.string s, .int .i64 k, .bool pair] w fun e w' => e = .returned (.bool (shapeM s k pair)) ∧ w = w' := by
  go_enter Try.func113, Try.ntmps113
  go_wp2_with (first | (go_at_call 127; refine (impl_ConOk _ _ hs).mono ?_; rintro e w' ⟨rfl, rfl⟩))
  all_goals
    go_ret
    exact ⟨ret_b (by grind [shapeM]), rfl⟩
set_option maxRecDepth 100000 in
set_option maxHeartbeats 2000000 in
theorem spec_l04ConOk (w : World) (s : ByteArray) (hs : s.size ≤ maxLen) (k : Nat) (pair : Bool) :
    Calls Try.prog 95 #[.string s, .int .i64 k, .bool pair] w fun e w' => e = .returned (.bool (shapeM s k pair)) ∧ w = w' := by
  go_enter Try.func95, Try.ntmps95
  go_wp2_with (first | (go_at_call 92; refine (spec_ConOk _ _ hs).mono ?_; rintro e w' ⟨rfl, rfl⟩))
  all_goals
    go_ret
    exact ⟨ret_b (by grind [shapeM]), rfl⟩
end Go.Proofs.Ytokjkmibnjfkaaa
