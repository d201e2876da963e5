import Derived.Test.YthkgncddilkmbaaHNam
import Derived.Test.YthkgncddilkmbaaBase
/- Strings in slices, over the second engine. -/
namespace Go.Proofs.Ythkgncddilkmbaa
set_option linter.unusedVariables false
set_option linter.unusedSimpArgs false
open Go.RowKit
def stE (p : ByteArray) : List D := [.s (.string p)]
theorem stE_eq (p : ByteArray) : stE p = [.s (.string p)] := rfl
set_option maxRecDepth 100000 in
theorem c_Index_str (xs : List ByteArray) (v : ByteArray) : FCon Try.prog 70 [.sl 1 (xs.map stE), .s (.string v)] (fun r _ => r = .s (.int .i64 (idxOf v xs))) := by
  refine FCon.intro PM _ Try.func70 (by kernel_rfl) rfl _ Try.ntmps70 rfl [] (by decide +kernel) (by simp) (by simp) rfl (by first | rfl | simp only [go_sem]) ?_
  refine AC_len 0 rfl trivial fun hlen => ?_
  simp only [List.length_map] at hlen
  (have hWf := f0; repeat' (first | refine zS ?_ | exact zE | with_reducible apply And.intro | ((with_reducible intro hb0); revert hb0; with_reducible first | exact zB0 | refine zB fun hb => ?_ | fail) | ((with_reducible apply q_Meet); exact zM) | exact zC | refine zT ?_ | fail))
  refine AC_loop (fun n σ => ∃ k : Nat, k ≤ xs.length ∧ n = xs.length - k ∧ σ.t 0 = .sl 1 (xs.map stE) ∧ σ.t 1 = .s (.string v) ∧ σ.t 7 = .s (.int .i64 xs.length) ∧ σ.t 8 = .s (.int .i64 k) ∧ ∀ j, j < k → xs[j]? ≠ some v) xs.length ⟨0, by omega, by omega, ?_⟩ ?_
  · simp only [go_sem, simprocAttr, Int.natCast_zero]
    all_goals simp
  · rintro n σ ⟨k, hk, rfl, h0, h1, h7, h8, hno⟩ K' hK
    by_cases hlt : k < xs.length
    · have hx := getD_map stE xs k hlt
      have he := stE_eq xs[k]
      by_cases hp : v = xs[k]
      · have hp' := str_beq_true hp
        have hv := idxOf_at hlt hno (by rw [List.getElem?_eq_getElem hlt, ← hp])
        (have hWf := WFx.mk (And.intro @h0 <| And.intro @h1 <| And.intro @h7 <| And.intro @h8 <| And.intro @hx <| And.intro @he <| @hp'); repeat' (first | refine zS ?_ | exact zE | with_reducible apply And.intro | ((with_reducible intro hb0); revert hb0; with_reducible first | exact zB0 | refine zB fun hb => ?_ | fail) | ((with_reducible apply q_Meet); exact zM) | exact zC | refine zT ?_ | fail))
        exact sI_congr hv.symm
      · have hp' := str_beq_false hp
        (have hWf := WFx.mk (And.intro @h0 <| And.intro @h1 <| And.intro @h7 <| And.intro @h8 <| And.intro @hx <| And.intro @he <| @hp'); repeat' (first | refine zS ?_ | exact zE | with_reducible apply And.intro | ((with_reducible intro hb0); revert hb0; with_reducible first | exact zB0 | refine zB fun hb => ?_ | fail) | ((with_reducible apply q_Meet); exact zM) | exact zC | refine zT ?_ | fail))
        refine hK (xs.length - (k + 1)) _ (by omega) ⟨k + 1, by omega, rfl, ?_⟩
        simp only [go_sem, simprocAttr, h0, h1, h7, Int.natCast_succ]
        intro j hj
        rcases Nat.lt_or_eq_of_le (Nat.le_of_lt_succ hj) with q | q
        · exact hno j q
        · subst q; rw [List.getElem?_eq_getElem hlt]; exact fun e => hp (Option.some.inj e).symm
    · obtain rfl : k = xs.length := by omega
      (have hWf := WFx.mk (And.intro @h0 <| And.intro @h1 <| And.intro @h7 <| @h8); repeat' (first | refine zS ?_ | exact zE | with_reducible apply And.intro | ((with_reducible intro hb0); revert hb0; with_reducible first | exact zB0 | refine zB fun hb => ?_ | fail) | ((with_reducible apply q_Meet); exact zM) | exact zC | refine zT ?_ | fail))
      exact sI_congr (idxOf_none hno).symm
theorem c_Contains_str (xs : List ByteArray) (v : ByteArray) : FCon Try.prog 58 [.sl 1 (xs.map stE), .s (.string v)] (fun r _ => r = .s (.bool (inL v xs))) := by
  refine FCon.intro PM _ Try.func58 (by kernel_rfl) rfl _ Try.ntmps58 rfl [] (by decide +kernel) (by simp) (by simp) rfl (by first | rfl | simp only [go_sem]) ?_
  (have hWf := f0; repeat' (first | refine zS ?_ | exact zE | with_reducible apply And.intro | refine zK (c_Index_str xs v) ?_ | ((with_reducible intro hb0); revert hb0; with_reducible first | exact zB0 | refine zB fun hb => ?_ | fail) | ((with_reducible apply q_Meet); exact zM) | exact zC | refine zT ?_ | fail))
  exact sB (idxOf_mem v xs)
theorem stE_frz (xs : List ByteArray) : frzLL (xs.map stE) = xs.map stE := frz_rows (fun _ => rfl) xs
end Go.Proofs.Ythkgncddilkmbaa
