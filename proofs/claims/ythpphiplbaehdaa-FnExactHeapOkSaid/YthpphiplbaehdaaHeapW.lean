/- Values and cells of a heap: both texts. -/
import Derived.Test.YthpphiplbaehdaaDCell
import Derived.Test.YthpphiplbaehdaaWrapWalks
import Derived.Test.YthpphiplbaehdaaNameWalks
namespace Go.Proofs.Ythpphiplbaehdaa
set_option linter.unusedVariables false
set_option linter.unusedSimpArgs false
open Go.RowKit Go.ChangeShapes Go.WideShapes
def emp (s : ByteArray) : Bool := s.toList.isEmpty
/-- a value in a heap of m cells. -/
def valM (m : Int) (x : DVal) : Bool :=
  if x.kind = 1 then decide (-4611686018427387904 ≤ x.n) && decide (x.n ≤ 4611686018427387903) && x.s.toList.isEmpty
  else if x.kind = 2 then x.n == 0
  else if x.kind = 3 ∨ x.kind = 7 then (x.n == 0) && x.s.toList.isEmpty
  else if x.kind = 4 ∨ x.kind = 5 then (x.n == 0) && !x.s.toList.isEmpty
  else if x.kind = 6 then decide (0 ≤ x.n) && decide (x.n < m) && x.s.toList.isEmpty
  else false
set_option maxRecDepth 100000 in
set_option maxHeartbeats 2000000 in
theorem spec_l11Val (w : World) (a : Option Addr) (m c : Nat) (hm : m ≤ 1000000000) (x : DVal) (hx : valOk x) :
    Calls Try.prog 71 #[.slice a m c, .agg #[.int .i64 x.kind, .int .i64 x.n, .string x.s]] w fun e w' => e = .returned (.bool (valM m x)) ∧ Below w.heap.size w w' := by
  obtain ⟨kind, n, s⟩ := x
  obtain ⟨hk, hn, hs⟩ := hx
  unfold I64 at hk hn
  dsimp only at hk hn hs ⊢
  have hw := wrap63_self_iff n
  have HW := Lib.hid hw
  clear hw
  by_cases h1 : kind = 1
  · subst h1
    go_enter Try.func71, Try.ntmps71
    go_wp2_with fail
    by_cases hi : -4611686018427387904 ≤ n ∧ n ≤ 4611686018427387903
    · have hwn : wrap63 n = n := HW.out.2 hi
      have HM : valM m ⟨1, n, s⟩ = s.toList.isEmpty := by grind [valM]
      have HM' := Lib.hid HM.symm
      clear HM
      first | go_region_law (first | (refine step_guard rfl ?_; go_simp; go_at_call 81; refine (spec_Wrap _ _).mono ?_; rw [hwn]; rintro e w2 ⟨rfl, rfl⟩; dsimp only)) | fail
      all_goals
        go_wp2
        go_ret
        exact ⟨ret_b HM'.out, (by repeat (first | with_reducible exact Below.refl _ _ | with_reducible assumption | with_reducible refine Below.setCell ?_ ?_ _ | with_reducible refine Below.alloc ?_ ?_ _ | with_reducible refine Below.drew ?_ | (with_reducible apply below_chain; with_reducible assumption) | exact Nat.le_refl _ | omega | (simp <;> omega)))⟩
    · obtain ⟨q, hq⟩ : ∃ q, wrap63 n = q := ⟨_, rfl⟩
      have hne : ¬ q = n := fun e => hi (HW.out.1 (hq.trans e))
      have hqn : (q == n) = false := by simpa using hne
      have HM : valM m ⟨1, n, s⟩ = false := by grind [valM]
      have HM' := Lib.hid HM.symm
      clear HM
      first | go_region_law (first | (refine step_guard rfl ?_; go_simp; go_at_call 81; refine (spec_Wrap _ _).mono ?_; rw [hq]; rintro e w2 ⟨rfl, rfl⟩; dsimp only)) | fail
      all_goals
        go_wp2
        go_ret
        exact ⟨ret_b HM'.out, (by repeat (first | with_reducible exact Below.refl _ _ | with_reducible assumption | with_reducible refine Below.setCell ?_ ?_ _ | with_reducible refine Below.alloc ?_ ?_ _ | with_reducible refine Below.drew ?_ | (with_reducible apply below_chain; with_reducible assumption) | exact Nat.le_refl _ | omega | (simp <;> omega)))⟩
  · go_enter Try.func71, Try.ntmps71
    go_wp2_with fail
    all_goals
      go_ret
      exact ⟨ret_b (by grind [valM]), (by repeat (first | with_reducible exact Below.refl _ _ | with_reducible assumption | with_reducible refine Below.setCell ?_ ?_ _ | with_reducible refine Below.alloc ?_ ?_ _ | with_reducible refine Below.drew ?_ | (with_reducible apply below_chain; with_reducible assumption) | exact Nat.le_refl _ | omega | (simp <;> omega)))⟩
theorem impl_valOk (w : World) (m : Nat) (hm : m ≤ 1000000000) (x : DVal) (hx : valOk x) :
    Calls Try.prog 77 #[.agg #[.int .i64 x.kind, .int .i64 x.n, .string x.s], .int .i64 m] w fun e w' => e = .returned (.bool (valM m x)) ∧ Below w.heap.size w w' := by
  obtain ⟨kind, n, s⟩ := x
  obtain ⟨hk, hn, hs⟩ := hx
  unfold I64 at hk hn
  dsimp only at hk hn hs ⊢
  go_enter Try.func77, Try.ntmps77
  go_wp2_with (first | (go_at_call 85; refine (impl_within _ _ _ _).mono ?_; rintro e w' ⟨rfl, rfl⟩))
  all_goals
    go_ret
    exact ⟨ret_b (by grind [valM]), (by repeat (first | with_reducible exact Below.refl _ _ | with_reducible assumption | with_reducible refine Below.setCell ?_ ?_ _ | with_reducible refine Below.alloc ?_ ?_ _ | with_reducible refine Below.drew ?_ | (with_reducible apply below_chain; with_reducible assumption) | exact Nat.le_refl _ | omega | (simp <;> omega)))⟩
end Go.Proofs.Ythpphiplbaehdaa
