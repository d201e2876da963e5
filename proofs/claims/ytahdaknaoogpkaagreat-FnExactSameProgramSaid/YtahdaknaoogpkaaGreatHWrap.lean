import Derived.Test.YtahdaknaoogpkaaGreatPaB
import Derived.Test.YtahdaknaoogpkaaGreatDecB
/- Wrap; constructors with any number of kids; over the second engine. -/
set_option maxRecDepth 100000
set_option maxHeartbeats 1000000
namespace Go.Proofs.YtahdaknaoogpkaaGreat
set_option linter.unusedVariables false
set_option linter.unusedSimpArgs false
open Go.RowKit
theorem FCon.ofInt {f : FuncId} {fn : Func} {c : Code} (hf : Tryz.prog.funcs[f]? = some fn) (hname : (fn.name == "runtime.NumGoroutine") = false) (hb : fn.body = some c) (n : Int) (r : Value) (hr : r.oneCell' = true) (h : ∀ w, Calls Tryz.prog f #[.int .i64 n] w fun e w' => e = .returned r ∧ Below w.heap.size w w') : FCon Tryz.prog f [.s (.int .i64 n)] (fun q _ => q = .s r) := by
  refine FCon.ofBelow (Rv := fun v => v = r) hf hname hb ?_ rfl ?_
  · rintro _ rfl; exact ⟨hr, rfl⟩
  · intro w S up vs hl hv
    obtain ⟨v, rfl, h'⟩ := one_arg (P := fun _ d u => RB S up w d u) hl hv
    have := Rep.s_inv (show Rep S up w none (.s (.int .i64 n)) v from h')
    subst this
    exact (h w).mono fun e w' h => ⟨_, h.1, rfl, h.2⟩
theorem c_specWrap (n : Int) : FCon Tryz.prog 195 [.s (.int .i64 n)] (fun r _ => r = .s (.int .i64 (wrap63 n))) := FCon.ofInt Tryz.func195 rfl rfl n _ rfl fun w => (spec_Wrap w n).mono fun e w' ⟨q1, q2⟩ => ⟨q1, q2 ▸ Below.refl _ _⟩
theorem wrap_self (a : Int) : (wrap63 a == a) = (decide (-4611686018427387904 ≤ a) && decide (a ≤ 4611686018427387903)) := by
  rw [wrap63_eq]
  by_cases h1 : -4611686018427387904 ≤ a
  · by_cases h2 : a ≤ 4611686018427387903
    · rw [decide_eq_true h1, decide_eq_true h2]; simp; omega
    · rw [decide_eq_false h2]; simp; omega
  · rw [decide_eq_false h1]; simp; omega
def shapeZ (s : ByteArray) (k : Int) (pair : Bool) : Bool :=
  if s.toList == [116, 114, 117, 101] || s.toList == [102, 97, 108, 115, 101] || s.toList == [91, 93] then k == 0
  else if s.toList == [58, 58] then (k == 1) && pair
  else conM s.data.toList && decide (k ≤ 1)
theorem c_l04ConOkAny (s : ByteArray) (hs : s.size ≤ maxLen) (k : Int) (p : Bool) : FCon Tryz.prog 169 [.s (.string s), .s (.int .i64 k), .s (.bool p)] (fun r _ => r = .s (.bool (shapeZ s k p))) := by
  refine FCon.intro PM _ Tryz.func169 (by kernel_rfl) rfl _ Tryz.ntmps169 rfl [] (by decide +kernel) (by simp) (by simp) rfl (by first | rfl | simp only [go_sem]) ?_
  (have hWf := WFx.mk (ai @litTrue <| ai @litFalse <| ai @litNil <| @litCons); repeat' (first | refine zS ?_ | exact zE | with_reducible apply And.intro | refine zK (c_specConOk s hs) ?_ | with_reducible exact zB0 | with_reducible refine zB fun hb => ?_ | exact zC | refine zT ?_ | fail))
  all_goals exact sB (by grind [shapeZ])
end Go.Proofs.YtahdaknaoogpkaaGreat
