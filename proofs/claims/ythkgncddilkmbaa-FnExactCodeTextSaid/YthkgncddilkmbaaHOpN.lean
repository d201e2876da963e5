import Derived.Test.YthkgncddilkmbaaHWrap
import Derived.Test.YthkgncddilkmbaaHStrs
import Derived.Test.YthkgncddilkmbaaDecB
import Derived.Test.YthkgncddilkmbaaQuoWalks
/- The instructions' names; numbers and quoted texts; over the second engine. -/
namespace Go.Proofs.Ythkgncddilkmbaa
set_option linter.unusedVariables false
set_option linter.unusedSimpArgs false
open Go.RowKit
def opNames : List ByteArray := [⟨#[]⟩, ⟨#[105, 110, 116]⟩, ⟨#[115, 116, 114]⟩, ⟨#[117, 110, 105, 116]⟩, ⟨#[99, 111, 110]⟩, ⟨#[112, 97, 105, 114]⟩, ⟨#[118, 97, 114]⟩, ⟨#[103, 105, 118, 101, 110]⟩, ⟨#[102, 117, 110]⟩, ⟨#[114, 101, 99]⟩, ⟨#[99, 97, 108, 108]⟩, ⟨#[114, 101, 116]⟩, ⟨#[106, 117, 109, 112]⟩, ⟨#[105, 102, 110, 111, 116]⟩, ⟨#[98, 105, 110, 100]⟩, ⟨#[100, 114, 111, 112]⟩, ⟨#[112, 114, 105, 109]⟩, ⟨#[114, 97, 105, 115, 101]⟩, ⟨#[116, 114, 121]⟩, ⟨#[111, 107]⟩, ⟨#[97, 114, 109]⟩, ⟨#[110, 111, 97, 114, 109]⟩, ⟨#[114, 101, 102]⟩, ⟨#[103, 101, 116]⟩, ⟨#[115, 101, 116]⟩, ⟨#[112, 111, 112]⟩]
def opN (op : Int) : ByteArray := opNames.getD op.toNat ⟨#[]⟩
theorem opN_len (op : Int) : (opN op).size ≤ 10 := by
  unfold opN
  rw [List.getD_eq_getElem?_getD]
  cases h : opNames[op.toNat]? with
  | none => decide
  | some s =>
    have hm := List.mem_of_getElem? h
    have : ∀ s ∈ opNames, s.size ≤ 10 := by decide
    exact this s hm
set_option maxRecDepth 100000 in
set_option maxHeartbeats 4000000 in
theorem c_opName (op : Int) (h0 : 1 ≤ op) (h1 : op ≤ 25) : FCon Try.prog 19 [.s (.int .i64 op)] (fun r _ => r = .s (.string (opN op))) := by
  rcases (show op = 1 ∨ op = 2 ∨ op = 3 ∨ op = 4 ∨ op = 5 ∨ op = 6 ∨ op = 7 ∨ op = 8 ∨ op = 9 ∨ op = 10 ∨ op = 11 ∨ op = 12 ∨ op = 13 ∨ op = 14 ∨ op = 15 ∨ op = 16 ∨ op = 17 ∨ op = 18 ∨ op = 19 ∨ op = 20 ∨ op = 21 ∨ op = 22 ∨ op = 23 ∨ op = 24 ∨ op = 25 by omega) with rfl | rfl | rfl | rfl | rfl | rfl | rfl | rfl | rfl | rfl | rfl | rfl | rfl | rfl | rfl | rfl | rfl | rfl | rfl | rfl | rfl | rfl | rfl | rfl | rfl
  all_goals
    refine FCon.intro PM _ Try.func19 (by kernel_rfl) rfl _ Try.ntmps19 rfl [] (by decide +kernel) (by simp) (by simp) rfl (by first | rfl | simp only [go_sem]) ?_
    (have hWf := f0; repeat' (first | refine zS ?_ | exact zE | with_reducible apply And.intro | ((with_reducible intro hb0); revert hb0; with_reducible first | exact zB0 | refine zB fun hb => ?_ | fail) | ((with_reducible apply q_Meet); exact zM) | exact zC | refine zT ?_ | fail))
    all_goals (first | rfl | trace_state)
set_option maxRecDepth 100000 in
set_option maxHeartbeats 4000000 in
theorem c_l10Name (op : Int) (h0 : 1 ≤ op) (h1 : op ≤ 25) : FCon Try.prog 13 [.s (.int .i64 op)] (fun r _ => r = .s (.string (opN op))) := by
  rcases (show op = 1 ∨ op = 2 ∨ op = 3 ∨ op = 4 ∨ op = 5 ∨ op = 6 ∨ op = 7 ∨ op = 8 ∨ op = 9 ∨ op = 10 ∨ op = 11 ∨ op = 12 ∨ op = 13 ∨ op = 14 ∨ op = 15 ∨ op = 16 ∨ op = 17 ∨ op = 18 ∨ op = 19 ∨ op = 20 ∨ op = 21 ∨ op = 22 ∨ op = 23 ∨ op = 24 ∨ op = 25 by omega) with rfl | rfl | rfl | rfl | rfl | rfl | rfl | rfl | rfl | rfl | rfl | rfl | rfl | rfl | rfl | rfl | rfl | rfl | rfl | rfl | rfl | rfl | rfl | rfl | rfl
  all_goals
    refine FCon.intro PM _ Try.func13 (by kernel_rfl) rfl _ Try.ntmps13 rfl [] (by decide +kernel) (by simp) (by simp) rfl (by first | rfl | simp only [go_sem]) ?_
    (have hWf := f0; repeat' (first | refine zS ?_ | exact zE | with_reducible apply And.intro | ((with_reducible intro hb0); revert hb0; with_reducible first | exact zB0 | refine zB fun hb => ?_ | fail) | ((with_reducible apply q_Meet); exact zM) | exact zC | refine zT ?_ | fail))
    all_goals (first | rfl | trace_state)
theorem c_digits (n : Int) (h0 : 0 ≤ n) (h1 : n ≤ 9223372036854775807) : FCon Try.prog 18 [.s (.int .i64 n)] (fun r _ => r = .s (.string (bs (decL n.toNat)))) := FCon.ofInt Try.func18 rfl rfl n _ rfl fun w => impl_digits w n h0 h1
theorem c_implNumText (n : Int) (h : I64 n) : FCon Try.prog 22 [.s (.int .i64 n)] (fun r _ => r = .s (.string (bs (numT n)))) := FCon.ofInt Try.func22 rfl rfl n _ rfl fun w => impl_NumText w n h.1 h.2
theorem c_specNumText (n : Int) (h : I64 n) : FCon Try.prog 12 [.s (.int .i64 n)] (fun r _ => r = .s (.string (bs (numT n)))) := FCon.ofInt Try.func12 rfl rfl n _ rfl fun w => spec_NumText w n h.1 h.2
theorem FCon.ofStrV {f : FuncId} {fn : Func} {c : Code} (hf : Try.prog.funcs[f]? = some fn) (hname : (fn.name == "runtime.NumGoroutine") = false) (hb : fn.body = some c) (s : ByteArray) (r : Value) (hr : r.oneCell' = true) (h : ∀ w, Calls Try.prog f #[.string s] w fun e w' => e = .returned r ∧ Below w.heap.size w w') : FCon Try.prog f [.s (.string s)] (fun q _ => q = .s r) := by
  refine FCon.ofBelow (Rv := fun v => v = r) hf hname hb ?_ rfl ?_
  · rintro _ rfl; exact ⟨hr, rfl⟩
  · intro w S up vs hl hv
    obtain ⟨v, rfl, h'⟩ := one_arg (P := fun _ d u => RB S up w d u) hl hv
    have := Rep.s_inv (show Rep S up w none (.s (.string s)) v from h')
    subst this
    exact (h w).mono fun e w' h => ⟨_, h.1, rfl, h.2⟩
theorem c_implQuote (s : ByteArray) (hs : s.size ≤ 10000000000) : FCon Try.prog 23 [.s (.string s)] (fun r _ => r = .s (.string (bs (quoL s.data.toList)))) := FCon.ofStrV Try.func23 rfl rfl s _ rfl fun w => impl_Quote w s hs
theorem c_specQuote (s : ByteArray) (hs : s.size ≤ 10000000000) : FCon Try.prog 14 [.s (.string s)] (fun r _ => r = .s (.string (bs (quoL s.data.toList)))) := FCon.ofStrV Try.func14 rfl rfl s _ rfl fun w => spec_Quote w s hs
end Go.Proofs.Ythkgncddilkmbaa
