import Derived.Test.YthkgncddilkmbaaHNam
import Derived.Test.YthkgncddilkmbaaHFidx
/- Index and Contains of numbers, over the second engine. -/
namespace Go.Proofs.Ythkgncddilkmbaa
set_option linter.unusedVariables false
set_option linter.unusedSimpArgs false
open Go.RowKit
set_option maxRecDepth 100000 in
theorem c_Index_int (xs : List Int) (v : Int) : FCon Try.prog 43 [intsD xs, .s (.int .i64 v)] (fun r _ => r = .s (.int .i64 (fidx (fun x => v == x) xs))) := by
  refine FCon.intro PM _ Try.func43 (by kernel_rfl) rfl _ Try.ntmps43 rfl [] (by decide +kernel) (by simp) (by simp) rfl (by first | rfl | simp only [go_sem]) ?_
  refine AC_len 0 rfl trivial fun hlen => ?_
  simp only [List.length_map] at hlen
  (have hWf := f0; repeat' (first | refine zS ?_ | exact zE | with_reducible apply And.intro | ((with_reducible intro hb0); revert hb0; with_reducible first | exact zB0 | refine zB fun hb => ?_ | fail) | ((with_reducible apply q_Meet); exact zM) | exact zC | refine zT ?_ | fail))
  refine AC_loop (fun n σ => ∃ k : Nat, k ≤ xs.length ∧ n = xs.length - k ∧ σ.t 0 = intsD xs ∧ σ.t 1 = .s (.int .i64 v) ∧ σ.t 7 = .s (.int .i64 xs.length) ∧ σ.t 8 = .s (.int .i64 k) ∧ ∀ x ∈ xs.take k, (v == x) = false) xs.length ⟨0, by omega, by omega, ?_⟩ ?_
  · simp only [go_sem, simprocAttr, Int.natCast_zero]
    all_goals simp
  · rintro n σ ⟨k, hk, rfl, h0, h1, h7, h8, hno⟩ K' hK
    by_cases hlt : k < xs.length
    · have hx := getD_map iE xs k hlt
      have he := iE_eq xs[k]
      by_cases hp : v = xs[k]
      · have hp' : (v == xs[k]) = true := by simpa using hp
        (have hWf := WFx.mk (And.intro @h0 <| And.intro @h1 <| And.intro @h7 <| And.intro @h8 <| And.intro @hx <| And.intro @he <| @hp'); repeat' (first | refine zS ?_ | exact zE | with_reducible apply And.intro | ((with_reducible intro hb0); revert hb0; with_reducible first | exact zB0 | refine zB fun hb => ?_ | fail) | ((with_reducible apply q_Meet); exact zM) | exact zC | refine zT ?_ | fail))
        exact sI_congr (by rw [fidx_at (fun x => v == x) xs k hlt hno hp'])
      · have hp' : (v == xs[k]) = false := by simpa using hp
        (have hWf := WFx.mk (And.intro @h0 <| And.intro @h1 <| And.intro @h7 <| And.intro @h8 <| And.intro @hx <| And.intro @he <| @hp'); repeat' (first | refine zS ?_ | exact zE | with_reducible apply And.intro | ((with_reducible intro hb0); revert hb0; with_reducible first | exact zB0 | refine zB fun hb => ?_ | fail) | ((with_reducible apply q_Meet); exact zM) | exact zC | refine zT ?_ | fail))
        refine hK (xs.length - (k + 1)) _ (by omega) ⟨k + 1, by omega, rfl, ?_⟩
        simp only [go_sem, simprocAttr, h0, h1, h7, Int.natCast_succ]
        intro x hx
        rw [List.take_succ_eq_append_getElem hlt] at hx
        rcases List.mem_append.1 hx with hx | hx
        · exact hno x hx
        · simp at hx; rw [hx]; exact hp'
    · obtain rfl : k = xs.length := by omega
      (have hWf := WFx.mk (And.intro @h0 <| And.intro @h1 <| And.intro @h7 <| @h8); repeat' (first | refine zS ?_ | exact zE | with_reducible apply And.intro | ((with_reducible intro hb0); revert hb0; with_reducible first | exact zB0 | refine zB fun hb => ?_ | fail) | ((with_reducible apply q_Meet); exact zM) | exact zC | refine zT ?_ | fail))
      exact sI_congr (by rw [fidx_no (fun x => v == x) xs (by simpa using hno)])
theorem idx_mem (xs : List Int) (v : Int) : decide (fidx (fun x => v == x) xs ≥ 0) = decide (v ∈ xs) := by
  rw [fidx_any, Bool.eq_iff_iff, List.any_eq_true]
  simp
set_option maxRecDepth 100000 in
theorem c_Contains_int (xs : List Int) (v : Int) : FCon Try.prog 21 [intsD xs, .s (.int .i64 v)] (fun r _ => r = .s (.bool (decide (v ∈ xs)))) := by
  refine FCon.intro PM _ Try.func21 (by kernel_rfl) rfl _ Try.ntmps21 rfl [] (by decide +kernel) (by simp) (by simp) rfl (by first | rfl | simp only [go_sem]) ?_
  (have hWf := f0; repeat' (first | refine zS ?_ | exact zE | with_reducible apply And.intro | refine zK (c_Index_int xs v) ?_ | ((with_reducible intro hb0); revert hb0; with_reducible first | exact zB0 | refine zB fun hb => ?_ | fail) | ((with_reducible apply q_Meet); exact zM) | exact zC | refine zT ?_ | fail))
  exact sB (idx_mem xs v)
end Go.Proofs.Ythkgncddilkmbaa
