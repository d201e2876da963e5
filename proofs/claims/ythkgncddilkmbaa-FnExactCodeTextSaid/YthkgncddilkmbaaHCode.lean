import Derived.Test.YthkgncddilkmbaaHIns2
import Derived.Test.YthkgncddilkmbaaHPat
/- Data Code over the second engine: how they lie, own and lent; copies, sizes, comparisons, marks. Printed by gen2.py. -/
namespace Go.Proofs.Ythkgncddilkmbaa
set_option linter.unusedVariables false
set_option linter.unusedSimpArgs false
open Go.RowKit Go.ChangeShapes Go.WideShapes
structure MCode where
  ins : List MIns
  pats : List MPat
def MCode.enc (x : MCode) : List D := [.sl 4 (x.ins.map MIns.enc), .sl 1 (x.pats.map MPat.enc)]
theorem MCode.enc_eq (x : MCode) : x.enc = [.sl 4 (x.ins.map MIns.enc), .sl 1 (x.pats.map MPat.enc)] := rfl
def MCode.own (x : MCode) : List D := [.osl 39 4 (x.ins.map MIns.own), .osl 58 1 (x.pats.map MPat.own)]
theorem MCode.own_eq (x : MCode) : x.own = [.osl 39 4 (x.ins.map MIns.own), .osl 58 1 (x.pats.map MPat.own)] := rfl
theorem MCode.frz_eq (x : MCode) : frzL x.own = x.enc := by
  simp only [MCode.own_eq, MCode.enc_eq, frzL, frz, frz_rows MIns.frz_eq, frz_rows MPat.frz_eq]
def MCode.ok (x : MCode) : Prop := (∀ y ∈ x.ins, y.ok) ∧ (∀ y ∈ x.pats, y.ok)
def MCode.sm (x : MCode) : Prop := smS MIns.sm x.ins ∧ smS MPat.sm x.pats
def MCode.cnt (x : MCode) : Nat := cnts MIns.cnt x.ins + cnts MPat.cnt x.pats
def MCode.mark (k : Int) (x : MCode) : MCode := ⟨marks MIns.cnt MIns.mark k x.ins, marks MPat.cnt MPat.mark (k + (cnts MIns.cnt x.ins : Nat)) x.pats⟩
theorem MCode.cnt_eq (x : MCode) : x.cnt = cnts MIns.cnt x.ins + cnts MPat.cnt x.pats := rfl
theorem MCode.mark_eq (k : Int) (x : MCode) : MCode.mark k x = ⟨marks MIns.cnt MIns.mark k x.ins, marks MPat.cnt MPat.mark (k + (cnts MIns.cnt x.ins : Nat)) x.pats⟩ := rfl
theorem MCode.pure (x : MCode) : ∀ d ∈ x.own, Pure d := by
  simp only [MCode.own_eq, List.forall_mem_cons, List.not_mem_nil, false_imp_iff, implies_true, and_true]
  exact ⟨pure_rows MIns.pure _ _ _, pure_rows MPat.pure _ _ _⟩
theorem MCode.pureS (e k : Nat) (xs : List MCode) : Pure (.osl e k (xs.map MCode.own)) = True := eq_true (pure_rows MCode.pure e k xs)
attribute [go_sem] MCode.pureS
theorem MCode.frzS (xs : List MCode) : frzLL (xs.map MCode.own) = xs.map MCode.enc := frz_rows MCode.frz_eq xs
attribute [go_sem] MCode.frzS
set_option maxRecDepth 100000 in
set_option maxHeartbeats 1000000 in
theorem c_toCode (x : MCode) (hs : x.sm) : FCon Try.prog 6 [.ag x.enc] (fun r _ => r = .ag x.own) := by
  refine FCon.intro PM _ Try.func6 (by kernel_rfl) rfl _ Try.ntmps6 rfl [] (by decide +kernel) (by simp) (by simp) rfl (by first | rfl | simp only [go_sem]) ?_
  (have hWf := WFx.mk (And.intro @MCode.enc_eq <| @MCode.own_eq); repeat' (first | refine zS ?_ | exact zE | with_reducible apply And.intro | refine zK (c_toInsS x.ins (hs.1)) ?_ | refine zK (c_toPatS x.pats (hs.2)) ?_ | ((with_reducible intro hb0); revert hb0; with_reducible first | exact zB0 | refine zB fun hb => ?_ | fail) | ((with_reducible apply q_Meet); exact zM) | exact zC | refine zT ?_ | fail))
set_option maxRecDepth 100000 in
set_option maxHeartbeats 1000000 in
theorem c_szCode (x : MCode) (ho : x.ok) (left : Int) (h0 : 0 ≤ left) (h1 : left ≤ 1048576) : FCon Try.prog 4 [.ag x.enc, .s (.int .i64 left)] (fun r _ => RsZ left x.sm r) := by
  refine FCon.intro PM _ Try.func4 (by kernel_rfl) rfl _ Try.ntmps4 rfl [] (by decide +kernel) (by simp) (by simp) rfl (by first | rfl | simp only [go_sem]) ?_
  (have hWf := WFx.mk @MCode.enc_eq; repeat' (first | refine zS ?_ | exact zE | with_reducible apply And.intro | ((with_reducible apply q_CallG); refine CallG_mk (c_szInsS x.ins (ho.1) _ (by omega) (by omega)) ?_; rintro _ _ ⟨z0, rfl, z0a, z0b, z0c⟩) | ((with_reducible apply q_CallQ); refine CallQ_mk (c_szInsS x.ins (ho.1) _ (by omega) (by omega)) ?_) | ((with_reducible apply q_CallG); refine CallG_mk (c_szPatS x.pats (ho.2) _ (by omega) (by omega)) ?_; rintro _ _ ⟨z1, rfl, z1a, z1b, z1c⟩) | ((with_reducible apply q_CallQ); refine CallQ_mk (c_szPatS x.pats (ho.2) _ (by omega) (by omega)) ?_) | ((with_reducible intro hb0); revert hb0; with_reducible first | exact zB0 | refine zB fun hb => ?_ | fail) | ((with_reducible apply q_Meet); exact zM) | exact zC | refine zT ?_ | fail))
  all_goals (first | exact ⟨_, rfl, by omega, by omega, by omega⟩ | exact ⟨_, rfl, by omega, by omega, fun _ => (show smS MIns.sm x.ins ∧ smS MPat.sm x.pats from ⟨z0c (by omega), z1c (by omega)⟩)⟩)
set_option maxRecDepth 100000 in
set_option maxHeartbeats 1000000 in
theorem c_eqCode (x : MCode) : FCon Try.prog 8 [.ag x.enc, .ag x.enc] (fun r _ => r = .s (.bool true)) := by
  refine FCon.intro PM _ Try.func8 (by kernel_rfl) rfl _ Try.ntmps8 rfl [] (by decide +kernel) (by simp) (by simp) rfl (by first | rfl | simp only [go_sem]) ?_
  (have hWf := WFx.mk @MCode.enc_eq; repeat' (first | refine zS ?_ | exact zE | with_reducible apply And.intro | refine zK (c_eqInsS x.ins) ?_ | refine zK (c_eqPatS x.pats) ?_ | ((with_reducible intro hb0); revert hb0; with_reducible first | exact zB0 | refine zB fun hb => ?_ | fail) | ((with_reducible apply q_Meet); exact zM) | exact zC | refine zT ?_ | fail))
end Go.Proofs.Ythkgncddilkmbaa
