import Derived.Test.YthkgncddilkmbaaHaB
import Derived.Test.YthkgncddilkmbaaBase
/- Names and numbers of both sides, over the second engine. -/
namespace Go.Proofs.Ythkgncddilkmbaa
set_option linter.unusedVariables false
set_option linter.unusedSimpArgs false
open Go.RowKit
theorem sB {a b : Bool} (h : a = b) : D.s (.bool a) = .s (.bool b) := by rw [h]
/-- a contract of the elder road for a function of one text. -/
theorem FCon.ofStr {f : FuncId} {fn : Func} {c : Code} (hf : Try.prog.funcs[f]? = some fn) (hname : (fn.name == "runtime.NumGoroutine") = false) (hb : fn.body = some c) (s : ByteArray) (b : Bool) (h : ∀ w, Calls Try.prog f #[.string s] w fun e w' => e = .returned (.bool b) ∧ Below w.heap.size w w') : FCon Try.prog f [.s (.string s)] (fun r _ => r = .s (.bool b)) := by
  refine FCon.ofBelow (Rv := fun v => v = .bool b) hf hname hb ?_ rfl ?_
  · rintro _ rfl; exact ⟨rfl, rfl⟩
  · intro w S up vs hl hv
    obtain ⟨v, rfl, h'⟩ := one_arg (P := fun _ d u => RB S up w d u) hl hv
    have := Rep.s_inv (show Rep S up w none (.s (.string s)) v from h')
    subst this
    exact (h w).mono fun e w' h => ⟨_, h.1, rfl, h.2⟩
theorem c_implNameOk (s : ByteArray) (hs : s.size ≤ maxLen) : FCon Try.prog 69 [.s (.string s)] (fun r _ => r = .s (.bool (nameM s))) := FCon.ofStr Try.func69 rfl rfl s _ fun w => impl_NameOk w s hs
theorem c_specNameOk (s : ByteArray) (hs : s.size ≤ maxLen) : FCon Try.prog 65 [.s (.string s)] (fun r _ => r = .s (.bool (nameM s))) := FCon.ofStr Try.func65 rfl rfl s _ fun w => spec_NameOk w s hs
theorem c_within (n lo hi : Int) : FCon Try.prog 35 [.s (.int .i64 n), .s (.int .i64 lo), .s (.int .i64 hi)] (fun r _ => r = .s (.bool (decide (lo ≤ n) && decide (n ≤ hi)))) := by
  refine FCon.intro PM _ Try.func35 (by kernel_rfl) rfl _ Try.ntmps35 rfl [] (by decide +kernel) (by simp) (by simp) rfl (by first | rfl | simp only [go_sem]) ?_
  (have hWf := f0; repeat' (first | refine zS ?_ | exact zE | with_reducible apply And.intro | ((with_reducible intro hb0); revert hb0; with_reducible first | exact zB0 | refine zB fun hb => ?_ | fail) | ((with_reducible apply q_Meet); exact zM) | exact zC | refine zT ?_ | fail))
  all_goals exact sB (by simp_all)
theorem c_implConOk (s : ByteArray) (hs : s.size ≤ maxLen) : FCon Try.prog 71 [.s (.string s)] (fun r _ => r = .s (.bool (conM s.data.toList))) := FCon.ofStr Try.func71 rfl rfl s _ fun w => (impl_ConOk w s hs).mono fun e w' ⟨q1, q2⟩ => ⟨q1, q2 ▸ Below.refl _ _⟩
theorem c_specConOk (s : ByteArray) (hs : s.size ≤ maxLen) : FCon Try.prog 66 [.s (.string s)] (fun r _ => r = .s (.bool (conM s.data.toList))) := FCon.ofStr Try.func66 rfl rfl s _ fun w => (spec_ConOk w s hs).mono fun e w' ⟨q1, q2⟩ => ⟨q1, q2 ▸ Below.refl _ _⟩
theorem lit0 : (⟨#[]⟩ : ByteArray).toList = [] := by kernel_rfl
end Go.Proofs.Ythkgncddilkmbaa
