import Derived.Test.YtahdaknaoogpkaaGreatHWrap
import Derived.Test.YtahdaknaoogpkaaGreatNmB
import Derived.Test.YtahdaknaoogpkaaGreatDecB
import Derived.Test.YtahdaknaoogpkaaGreatQuoWalks
/- Numbers and quoted texts; over the second engine. -/
namespace Go.Proofs.YtahdaknaoogpkaaGreat
set_option linter.unusedVariables false
set_option linter.unusedSimpArgs false
open Go.RowKit
theorem c_digits (n : Int) (h0 : 0 ≤ n) (h1 : n ≤ 9223372036854775807) : FCon Tryz.prog 80 [.s (.int .i64 n)] (fun r _ => r = .s (.string (bs (decL n.toNat)))) := FCon.ofInt Tryz.func80 rfl rfl n _ rfl fun w => impl_digits w n h0 h1
theorem c_implNumText (n : Int) (h : I64 n) : FCon Tryz.prog 84 [.s (.int .i64 n)] (fun r _ => r = .s (.string (bs (numT n)))) := FCon.ofInt Tryz.func84 rfl rfl n _ rfl fun w => impl_NumText w n h.1 h.2
theorem c_specNumText (n : Int) (h : I64 n) : FCon Tryz.prog 109 [.s (.int .i64 n)] (fun r _ => r = .s (.string (bs (numT n)))) := FCon.ofInt Tryz.func109 rfl rfl n _ rfl fun w => spec_NumText w n h.1 h.2
theorem FCon.ofStrV {f : FuncId} {fn : Func} {c : Code} (hf : Tryz.prog.funcs[f]? = some fn) (hname : (fn.name == "runtime.NumGoroutine") = false) (hb : fn.body = some c) (s : ByteArray) (r : Value) (hr : r.oneCell' = true) (h : ∀ w, Calls Tryz.prog f #[.string s] w fun e w' => e = .returned r ∧ Below w.heap.size w w') : FCon Tryz.prog f [.s (.string s)] (fun q _ => q = .s r) := by
  refine FCon.ofBelow (Rv := fun v => v = r) hf hname hb ?_ rfl ?_
  · rintro _ rfl; exact ⟨hr, rfl⟩
  · intro w S up vs hl hv
    obtain ⟨v, rfl, h'⟩ := one_arg (P := fun _ d u => RB S up w d u) hl hv
    have := Rep.s_inv (show Rep S up w none (.s (.string s)) v from h')
    subst this
    exact (h w).mono fun e w' h => ⟨_, h.1, rfl, h.2⟩
theorem c_implQuote (s : ByteArray) (hs : s.size ≤ 10000000000) : FCon Tryz.prog 85 [.s (.string s)] (fun r _ => r = .s (.string (bs (quoL s.data.toList)))) := FCon.ofStrV Tryz.func85 rfl rfl s _ rfl fun w => impl_Quote w s hs
theorem c_specQuote (s : ByteArray) (hs : s.size ≤ 10000000000) : FCon Tryz.prog 110 [.s (.string s)] (fun r _ => r = .s (.string (bs (quoL s.data.toList)))) := FCon.ofStrV Tryz.func110 rfl rfl s _ rfl fun w => spec_Quote w s hs
end Go.Proofs.YtahdaknaoogpkaaGreat
