/- An instruction: the reference's text. -/
import Derived.Test.YtbimnhbpcppfiaaCodeIns
import Derived.Laws.Cover3
namespace Go.Proofs.Ytbimnhbpcppfiaa
set_option linter.unusedVariables false
set_option linter.unusedSimpArgs false
open Go.RowKit
theorem spec_l10Place (w : World) (a1 : Option Addr) (n c1 : Nat) (v2 : Value) (a : Int) : Calls Try.prog 177 #[.agg #[.slice a1 n c1, v2], .int .i64 a] w fun e w' => e = .returned (.bool (decide (0 ≤ a) && decide (a < n))) ∧ Below w.heap.size w w' := by
  go_enter Try.func177, Try.ntmps177
  go_wp2
  all_goals
    go_ret
    exact ⟨ret_b (by first | (simp_all; done) | grind), (by repeat (first | with_reducible exact Below.refl _ _ | with_reducible assumption | with_reducible refine Below.setCell ?_ ?_ _ | with_reducible refine Below.alloc ?_ ?_ _ | with_reducible refine Below.drew ?_ | (with_reducible apply below_chain; with_reducible assumption) | exact Nat.le_refl _ | omega | (simp <;> omega)))⟩
theorem wrap_self (a : Int) : (wrap63 a == a) = (decide (-4611686018427387904 ≤ a) && decide (a ≤ 4611686018427387903)) := by
  rw [wrap63_eq]
  by_cases h1 : -4611686018427387904 ≤ a
  · by_cases h2 : a ≤ 4611686018427387903
    · rw [decide_eq_true h1, decide_eq_true h2]; simp; omega
    · rw [decide_eq_false h2]; simp; omega
  · rw [decide_eq_false h1]; simp; omega
def someB (e : Ending) : Prop := ∃ b : Bool, e = .returned (.bool b)
set_option maxRecDepth 100000 in
set_option maxHeartbeats 2000000 in
theorem spec_l04ConOk_any (w : World) (s : ByteArray) (hs : s.size ≤ maxLen) (k : Int) (pair : Bool) :
    Calls Try.prog 176 #[.string s, .int .i64 k, .bool pair] w fun e w' => someB e ∧ w = w' := by
  go_enter Try.func176, Try.ntmps176
  go_wp2_with (first | (go_at_call 187; refine (spec_ConOk _ _ hs).mono ?_; rintro e w' ⟨rfl, rfl⟩))
  all_goals
    go_ret
    exact ⟨⟨_, rfl⟩, rfl⟩
end Go.Proofs.Ytbimnhbpcppfiaa
