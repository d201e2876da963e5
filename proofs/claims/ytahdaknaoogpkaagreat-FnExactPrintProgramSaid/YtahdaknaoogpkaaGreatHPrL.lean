import Derived.Test.YtahdaknaoogpkaaGreatHPrS
import Derived.Test.YtahdaknaoogpkaaGreatPgB
/- The law FnExactPrintProgram over the second engine. -/
set_option maxRecDepth 100000
set_option maxHeartbeats 4000000
namespace Go.Proofs.YtahdaknaoogpkaaGreat
set_option linter.unusedVariables false
set_option linter.unusedSimpArgs false
open Go.RowKit Arb
theorem print_both (p : MProgram) (ho : p.ok) (hs : p.sm) : ∃ s : ByteArray, FCon Tryz.prog 15 [.ag p.enc] (fun r _ => r = .s (.string s)) ∧ FCon Tryz.prog 14 [.ag p.enc] (fun r _ => r = .s (.string s)) := by
  cases hp : progM p with
  | false => exact ⟨_, c_implPrint_bad p ho hs hp, c_specPrint_bad p ho hs hp⟩
  | true =>
    obtain ⟨t, ht, ok, hz, h8, hty⟩ := tree_of hp
    exact ⟨_, c_implPrint_ok p ho hs hp t ht ok hz h8 hty, c_specPrint_ok p ho hs hp t ht ok hz h8 hty⟩
theorem MProgram.frzI (p : MProgram) : frzL p.own = p.enc := MProgram.frz_eq p
theorem c_FnExactPrintProgram (p : MProgram) (ho : p.ok) : FCon Tryz.prog 4 [.ag p.enc] (fun r _ => r = .s (.bool true)) := by
  by_cases hz : p.tot ≤ 1048576
  · have hs := MProgram.sm_of hz
    obtain ⟨s, ci, cs⟩ := print_both p ho hs
    have tp := c_toProgram p hs
    have ep := c_eqProgram p
    refine FCon.intro PM _ Tryz.func4 (by kernel_rfl) rfl _ Tryz.ntmps4 rfl [(10, 3, [], [], (lin [] [0, 1, 2]))] (by decide +kernel) (by simp) (by simp) rfl (by first | rfl | simp only [go_sem]) ?_
    (have hWf := WFx.mk (ai @MProgram.enc_eq <| ai @MProgram.own_eq <| ai @pure_tupL <| @pure_agL); repeat' (first | refine zS ?_ | exact zE | with_reducible apply And.intro | ((with_reducible apply q_CallG); refine CallG_mk (d_szProgram p ho 1048576 (by omega) (by omega)) ?_; rintro _ _ ⟨z, rfl, za, zb, zc⟩) | ((with_reducible apply q_CallQ); refine CallQ_mk (d_szProgram p ho 1048576 (by omega) (by omega)) ?_) | refine zK (tp) ?_ | refine zK (cs) ?_ | refine zK (ci) ?_ | refine zK (ep) ?_ | with_reducible exact zB0 | with_reducible refine zB fun hb => ?_ | exact zC | refine zT ?_ | fail))
  · refine FCon.intro PM _ Tryz.func4 (by kernel_rfl) rfl _ Tryz.ntmps4 rfl [(10, 3, [], [], (lin [] [0, 1, 2]))] (by decide +kernel) (by simp) (by simp) rfl (by first | rfl | simp only [go_sem]) ?_
    (have hWf := WFx.mk @MProgram.enc_eq; repeat' (first | refine zS ?_ | exact zE | with_reducible apply And.intro | ((with_reducible apply q_CallG); refine CallG_mk (d_szProgram p ho 1048576 (by omega) (by omega)) ?_; rintro _ _ ⟨z, rfl, za, zb, zc⟩) | ((with_reducible apply q_CallQ); refine CallQ_mk (d_szProgram p ho 1048576 (by omega) (by omega)) ?_) | with_reducible exact zB0 | with_reducible refine zB fun hb => ?_ | exact zC | refine zT ?_ | fail))
    all_goals exact absurd (by have := zc (by omega); omega) hz
end Go.Proofs.YtahdaknaoogpkaaGreat
