import Derived.Test.YthkgncddilkmbaaHIOk
import Derived.Test.YthkgncddilkmbaaHWrap
/- Instructions by themselves: the reference's text, over the second engine. Printed by ins2.py. -/
namespace Go.Proofs.Ythkgncddilkmbaa
set_option linter.unusedVariables false
set_option linter.unusedSimpArgs false
open Go.RowKit
set_option maxRecDepth 100000 in
set_option maxHeartbeats 8000000 in
theorem spec_l10InsOk_a (c : MCode) (op a b : Int) (s : ByteArray) (hop : op = 8 ∨ op = 9 ∨ op = 12) (hn : c.ins.length ≤ 1048576) (hm : c.pats.length ≤ 1048576) (hs : s.size ≤ maxLen) : FCon Try.prog 29 [.ag c.enc, .ag (MIns.mk op a b s).enc] (fun r _ => r = .s (.bool (insM c.ins.length c.pats.length ⟨op, a, b, s⟩))) := by
  rcases hop with rfl | rfl | rfl
  all_goals
    refine FCon.intro PM _ Try.func29 (by kernel_rfl) rfl _ Try.ntmps29 rfl [(6, 5, [], [], (lin [] [0, 1, 2, 3, 4]))] (by decide +kernel) (by simp) (by simp) rfl (by first | rfl | simp only [go_sem]) ?_
    (have hWf := WFx.mk (And.intro @MCode.enc_eq <| And.intro @MIns.enc_eq <| @lit0); repeat' (first | refine zS ?_ | exact zE | with_reducible apply And.intro | ((with_reducible apply q_CallG); refine zG (c_l10Place c _) ?_) | ((with_reducible apply q_CallQ); refine CallQ_mk (c_l10Place c _) ?_) | ((with_reducible intro hb0); revert hb0; with_reducible first | exact zB0 | refine zB fun hb => ?_ | fail) | ((with_reducible apply q_Meet); exact zM) | exact zC | refine zT ?_ | fail))
    all_goals first
    | exact fun h => ⟨h, by omega, by omega⟩
    | exact fun h => ⟨h, by omega⟩
    | (refine sB ?_; unfold insM leadsM; simp; done)
    | (refine sB ?_; unfold insM leadsM; simp; grind)
    | (refine sB ?_; unfold insM leadsM; rw [Bool.eq_iff_iff]; simp; omega)
    | (trace_state; sorry)
set_option maxRecDepth 100000 in
set_option maxHeartbeats 8000000 in
theorem spec_l10InsOk_b (c : MCode) (op a b : Int) (s : ByteArray) (hop : op = 13 ∨ op = 18) (hn : c.ins.length ≤ 1048576) (hm : c.pats.length ≤ 1048576) (hs : s.size ≤ maxLen) : FCon Try.prog 29 [.ag c.enc, .ag (MIns.mk op a b s).enc] (fun r _ => r = .s (.bool (insM c.ins.length c.pats.length ⟨op, a, b, s⟩))) := by
  rcases hop with rfl | rfl
  all_goals
    refine FCon.intro PM _ Try.func29 (by kernel_rfl) rfl _ Try.ntmps29 rfl [(6, 5, [], [], (lin [] [0, 1, 2, 3, 4]))] (by decide +kernel) (by simp) (by simp) rfl (by first | rfl | simp only [go_sem]) ?_
    (have hWf := WFx.mk (And.intro @MCode.enc_eq <| And.intro @MIns.enc_eq <| @lit0); repeat' (first | refine zS ?_ | exact zE | with_reducible apply And.intro | ((with_reducible apply q_CallG); refine zG (c_l10Place c _) ?_) | ((with_reducible apply q_CallQ); refine CallQ_mk (c_l10Place c _) ?_) | ((with_reducible intro hb0); revert hb0; with_reducible first | exact zB0 | refine zB fun hb => ?_ | fail) | ((with_reducible apply q_Meet); exact zM) | exact zC | refine zT ?_ | fail))
    all_goals first
    | exact fun h => ⟨h, by omega, by omega⟩
    | exact fun h => ⟨h, by omega⟩
    | (refine sB ?_; unfold insM leadsM; simp; done)
    | (refine sB ?_; unfold insM leadsM; simp; grind)
    | (refine sB ?_; unfold insM leadsM; rw [Bool.eq_iff_iff]; simp; omega)
    | (trace_state; sorry)
set_option maxRecDepth 100000 in
set_option maxHeartbeats 8000000 in
theorem spec_l10InsOk_c (c : MCode) (op a b : Int) (s : ByteArray) (hop : op = 20) (hn : c.ins.length ≤ 1048576) (hm : c.pats.length ≤ 1048576) (hs : s.size ≤ maxLen) : FCon Try.prog 29 [.ag c.enc, .ag (MIns.mk op a b s).enc] (fun r _ => r = .s (.bool (insM c.ins.length c.pats.length ⟨op, a, b, s⟩))) := by
  rcases hop with rfl
  all_goals
    refine FCon.intro PM _ Try.func29 (by kernel_rfl) rfl _ Try.ntmps29 rfl [(6, 5, [], [], (lin [] [0, 1, 2, 3, 4]))] (by decide +kernel) (by simp) (by simp) rfl (by first | rfl | simp only [go_sem]) ?_
    (have hWf := WFx.mk (And.intro @MCode.enc_eq <| And.intro @MIns.enc_eq <| @lit0); repeat' (first | refine zS ?_ | exact zE | with_reducible apply And.intro | ((with_reducible apply q_CallG); refine zG (c_l10Place c _) ?_) | ((with_reducible apply q_CallQ); refine CallQ_mk (c_l10Place c _) ?_) | ((with_reducible intro hb0); revert hb0; with_reducible first | exact zB0 | refine zB fun hb => ?_ | fail) | ((with_reducible apply q_Meet); exact zM) | exact zC | refine zT ?_ | fail))
    all_goals first
    | exact fun h => ⟨h, by omega, by omega⟩
    | exact fun h => ⟨h, by omega⟩
    | (refine sB ?_; unfold insM leadsM; simp; done)
    | (refine sB ?_; unfold insM leadsM; simp; grind)
    | (refine sB ?_; unfold insM leadsM; rw [Bool.eq_iff_iff]; simp; omega)
    | (trace_state; sorry)
set_option maxRecDepth 100000 in
set_option maxHeartbeats 8000000 in
theorem spec_l10InsOk_d (c : MCode) (op a b : Int) (s : ByteArray) (hop : op = 6 ∨ op = 15) (hn : c.ins.length ≤ 1048576) (hm : c.pats.length ≤ 1048576) (hs : s.size ≤ maxLen) : FCon Try.prog 29 [.ag c.enc, .ag (MIns.mk op a b s).enc] (fun r _ => r = .s (.bool (insM c.ins.length c.pats.length ⟨op, a, b, s⟩))) := by
  rcases hop with rfl | rfl
  all_goals
    refine FCon.intro PM _ Try.func29 (by kernel_rfl) rfl _ Try.ntmps29 rfl [(6, 5, [], [], (lin [] [0, 1, 2, 3, 4]))] (by decide +kernel) (by simp) (by simp) rfl (by first | rfl | simp only [go_sem]) ?_
    (have hWf := WFx.mk (And.intro @MCode.enc_eq <| And.intro @MIns.enc_eq <| @lit0); repeat' (first | refine zS ?_ | exact zE | with_reducible apply And.intro | ((with_reducible apply q_CallG); refine zG (c_l10Place c _) ?_) | ((with_reducible apply q_CallQ); refine CallQ_mk (c_l10Place c _) ?_) | ((with_reducible intro hb0); revert hb0; with_reducible first | exact zB0 | refine zB fun hb => ?_ | fail) | ((with_reducible apply q_Meet); exact zM) | exact zC | refine zT ?_ | fail))
    all_goals first
    | exact fun h => ⟨h, by omega, by omega⟩
    | exact fun h => ⟨h, by omega⟩
    | (refine sB ?_; unfold insM leadsM; simp; done)
    | (refine sB ?_; unfold insM leadsM; simp; grind)
    | (refine sB ?_; unfold insM leadsM; rw [Bool.eq_iff_iff]; simp; omega)
    | (trace_state; sorry)
set_option maxRecDepth 100000 in
set_option maxHeartbeats 8000000 in
theorem spec_l10InsOk_f (c : MCode) (op a b : Int) (s : ByteArray) (hop : op = 2) (hn : c.ins.length ≤ 1048576) (hm : c.pats.length ≤ 1048576) (hs : s.size ≤ maxLen) : FCon Try.prog 29 [.ag c.enc, .ag (MIns.mk op a b s).enc] (fun r _ => r = .s (.bool (insM c.ins.length c.pats.length ⟨op, a, b, s⟩))) := by
  rcases hop with rfl
  all_goals
    refine FCon.intro PM _ Try.func29 (by kernel_rfl) rfl _ Try.ntmps29 rfl [(6, 5, [], [], (lin [] [0, 1, 2, 3, 4]))] (by decide +kernel) (by simp) (by simp) rfl (by first | rfl | simp only [go_sem]) ?_
    (have hWf := WFx.mk (And.intro @MCode.enc_eq <| And.intro @MIns.enc_eq <| @lit0); repeat' (first | refine zS ?_ | exact zE | with_reducible apply And.intro | ((with_reducible apply q_CallG); refine zG (c_l10Place c _) ?_) | ((with_reducible apply q_CallQ); refine CallQ_mk (c_l10Place c _) ?_) | ((with_reducible intro hb0); revert hb0; with_reducible first | exact zB0 | refine zB fun hb => ?_ | fail) | ((with_reducible apply q_Meet); exact zM) | exact zC | refine zT ?_ | fail))
    all_goals first
    | exact fun h => ⟨h, by omega, by omega⟩
    | exact fun h => ⟨h, by omega⟩
    | (refine sB ?_; unfold insM leadsM; simp; done)
    | (refine sB ?_; unfold insM leadsM; simp; grind)
    | (refine sB ?_; unfold insM leadsM; rw [Bool.eq_iff_iff]; simp; omega)
    | (trace_state; sorry)
set_option maxRecDepth 100000 in
set_option maxHeartbeats 8000000 in
theorem spec_l10InsOk_g (c : MCode) (op a b : Int) (s : ByteArray) (hop : op = 3 ∨ op = 5 ∨ op = 10 ∨ op = 11) (hn : c.ins.length ≤ 1048576) (hm : c.pats.length ≤ 1048576) (hs : s.size ≤ maxLen) : FCon Try.prog 29 [.ag c.enc, .ag (MIns.mk op a b s).enc] (fun r _ => r = .s (.bool (insM c.ins.length c.pats.length ⟨op, a, b, s⟩))) := by
  rcases hop with rfl | rfl | rfl | rfl
  all_goals
    refine FCon.intro PM _ Try.func29 (by kernel_rfl) rfl _ Try.ntmps29 rfl [(6, 5, [], [], (lin [] [0, 1, 2, 3, 4]))] (by decide +kernel) (by simp) (by simp) rfl (by first | rfl | simp only [go_sem]) ?_
    (have hWf := WFx.mk (And.intro @MCode.enc_eq <| And.intro @MIns.enc_eq <| @lit0); repeat' (first | refine zS ?_ | exact zE | with_reducible apply And.intro | ((with_reducible apply q_CallG); refine zG (c_l10Place c _) ?_) | ((with_reducible apply q_CallQ); refine CallQ_mk (c_l10Place c _) ?_) | ((with_reducible intro hb0); revert hb0; with_reducible first | exact zB0 | refine zB fun hb => ?_ | fail) | ((with_reducible apply q_Meet); exact zM) | exact zC | refine zT ?_ | fail))
    all_goals first
    | exact fun h => ⟨h, by omega, by omega⟩
    | exact fun h => ⟨h, by omega⟩
    | (refine sB ?_; unfold insM leadsM; simp; done)
    | (refine sB ?_; unfold insM leadsM; simp; grind)
    | (refine sB ?_; unfold insM leadsM; rw [Bool.eq_iff_iff]; simp; omega)
    | (trace_state; sorry)
set_option maxRecDepth 100000 in
set_option maxHeartbeats 8000000 in
theorem spec_l10InsOk_h (c : MCode) (op a b : Int) (s : ByteArray) (hop : op = 14 ∨ op = 17 ∨ op = 19) (hn : c.ins.length ≤ 1048576) (hm : c.pats.length ≤ 1048576) (hs : s.size ≤ maxLen) : FCon Try.prog 29 [.ag c.enc, .ag (MIns.mk op a b s).enc] (fun r _ => r = .s (.bool (insM c.ins.length c.pats.length ⟨op, a, b, s⟩))) := by
  rcases hop with rfl | rfl | rfl
  all_goals
    refine FCon.intro PM _ Try.func29 (by kernel_rfl) rfl _ Try.ntmps29 rfl [(6, 5, [], [], (lin [] [0, 1, 2, 3, 4]))] (by decide +kernel) (by simp) (by simp) rfl (by first | rfl | simp only [go_sem]) ?_
    (have hWf := WFx.mk (And.intro @MCode.enc_eq <| And.intro @MIns.enc_eq <| @lit0); repeat' (first | refine zS ?_ | exact zE | with_reducible apply And.intro | ((with_reducible apply q_CallG); refine zG (c_l10Place c _) ?_) | ((with_reducible apply q_CallQ); refine CallQ_mk (c_l10Place c _) ?_) | ((with_reducible intro hb0); revert hb0; with_reducible first | exact zB0 | refine zB fun hb => ?_ | fail) | ((with_reducible apply q_Meet); exact zM) | exact zC | refine zT ?_ | fail))
    all_goals first
    | exact fun h => ⟨h, by omega, by omega⟩
    | exact fun h => ⟨h, by omega⟩
    | (refine sB ?_; unfold insM leadsM; simp; done)
    | (refine sB ?_; unfold insM leadsM; simp; grind)
    | (refine sB ?_; unfold insM leadsM; rw [Bool.eq_iff_iff]; simp; omega)
    | (trace_state; sorry)
set_option maxRecDepth 100000 in
set_option maxHeartbeats 8000000 in
theorem spec_l10InsOk_i (c : MCode) (op a b : Int) (s : ByteArray) (hop : op = 21 ∨ op = 22 ∨ op = 23) (hn : c.ins.length ≤ 1048576) (hm : c.pats.length ≤ 1048576) (hs : s.size ≤ maxLen) : FCon Try.prog 29 [.ag c.enc, .ag (MIns.mk op a b s).enc] (fun r _ => r = .s (.bool (insM c.ins.length c.pats.length ⟨op, a, b, s⟩))) := by
  rcases hop with rfl | rfl | rfl
  all_goals
    refine FCon.intro PM _ Try.func29 (by kernel_rfl) rfl _ Try.ntmps29 rfl [(6, 5, [], [], (lin [] [0, 1, 2, 3, 4]))] (by decide +kernel) (by simp) (by simp) rfl (by first | rfl | simp only [go_sem]) ?_
    (have hWf := WFx.mk (And.intro @MCode.enc_eq <| And.intro @MIns.enc_eq <| @lit0); repeat' (first | refine zS ?_ | exact zE | with_reducible apply And.intro | ((with_reducible apply q_CallG); refine zG (c_l10Place c _) ?_) | ((with_reducible apply q_CallQ); refine CallQ_mk (c_l10Place c _) ?_) | ((with_reducible intro hb0); revert hb0; with_reducible first | exact zB0 | refine zB fun hb => ?_ | fail) | ((with_reducible apply q_Meet); exact zM) | exact zC | refine zT ?_ | fail))
    all_goals first
    | exact fun h => ⟨h, by omega, by omega⟩
    | exact fun h => ⟨h, by omega⟩
    | (refine sB ?_; unfold insM leadsM; simp; done)
    | (refine sB ?_; unfold insM leadsM; simp; grind)
    | (refine sB ?_; unfold insM leadsM; rw [Bool.eq_iff_iff]; simp; omega)
    | (trace_state; sorry)
set_option maxRecDepth 100000 in
set_option maxHeartbeats 8000000 in
theorem spec_l10InsOk_j (c : MCode) (op a b : Int) (s : ByteArray) (hop : op = 24 ∨ op = 25) (hn : c.ins.length ≤ 1048576) (hm : c.pats.length ≤ 1048576) (hs : s.size ≤ maxLen) : FCon Try.prog 29 [.ag c.enc, .ag (MIns.mk op a b s).enc] (fun r _ => r = .s (.bool (insM c.ins.length c.pats.length ⟨op, a, b, s⟩))) := by
  rcases hop with rfl | rfl
  all_goals
    refine FCon.intro PM _ Try.func29 (by kernel_rfl) rfl _ Try.ntmps29 rfl [(6, 5, [], [], (lin [] [0, 1, 2, 3, 4]))] (by decide +kernel) (by simp) (by simp) rfl (by first | rfl | simp only [go_sem]) ?_
    (have hWf := WFx.mk (And.intro @MCode.enc_eq <| And.intro @MIns.enc_eq <| @lit0); repeat' (first | refine zS ?_ | exact zE | with_reducible apply And.intro | ((with_reducible apply q_CallG); refine zG (c_l10Place c _) ?_) | ((with_reducible apply q_CallQ); refine CallQ_mk (c_l10Place c _) ?_) | ((with_reducible intro hb0); revert hb0; with_reducible first | exact zB0 | refine zB fun hb => ?_ | fail) | ((with_reducible apply q_Meet); exact zM) | exact zC | refine zT ?_ | fail))
    all_goals first
    | exact fun h => ⟨h, by omega, by omega⟩
    | exact fun h => ⟨h, by omega⟩
    | (refine sB ?_; unfold insM leadsM; simp; done)
    | (refine sB ?_; unfold insM leadsM; simp; grind)
    | (refine sB ?_; unfold insM leadsM; rw [Bool.eq_iff_iff]; simp; omega)
    | (trace_state; sorry)
theorem wrapE (a : Int) (ha : I64 a) : (wrap63 a == a) = (decide (-4611686018427387904 ≤ a) && decide (a ≤ 4611686018427387903)) := wrap_self a
set_option maxRecDepth 100000 in
set_option maxHeartbeats 8000000 in
theorem spec_l10InsOk_int (c : MCode) (a b : Int) (s : ByteArray) (hn : c.ins.length ≤ 1048576) (hm : c.pats.length ≤ 1048576) (hs : s.size ≤ maxLen) : FCon Try.prog 29 [.ag c.enc, .ag (MIns.mk 1 a b s).enc] (fun r _ => r = .s (.bool (insM c.ins.length c.pats.length ⟨1, a, b, s⟩))) := by
  have e : insM c.ins.length c.pats.length ⟨1, a, b, s⟩ = (decide (-4611686018427387904 ≤ a) && decide (a ≤ 4611686018427387903) && (b == 0) && s.toList.isEmpty) := by unfold insM leadsM; simp
  rw [e]
  have hW := c_specWrap a
  have hw := wrap_self a
  refine FCon.intro PM _ Try.func29 (by kernel_rfl) rfl _ Try.ntmps29 rfl [(6, 5, [], [], (lin [] [0, 1, 2, 3, 4]))] (by decide +kernel) (by simp) (by simp) rfl (by first | rfl | simp only [go_sem]) ?_
  (have hWf := WFx.mk (And.intro @MCode.enc_eq <| And.intro @MIns.enc_eq <| And.intro @lit0 <| @hw); repeat' (first | refine zS ?_ | exact zE | with_reducible apply And.intro | refine zK (hW) ?_ | ((with_reducible intro hb0); revert hb0; with_reducible first | exact zB0 | refine zB fun hb => ?_ | fail) | ((with_reducible apply q_Meet); exact zM) | exact zC | refine zT ?_ | fail))
  all_goals (first | rfl | exact fun h => ⟨h, by omega⟩ | exact sB (by simp) | (refine sB ?_; rw [Bool.eq_iff_iff]; simp; done) | trace_state)
set_option maxRecDepth 100000 in
set_option maxHeartbeats 8000000 in
theorem spec_l10InsOk_con (c : MCode) (a b : Int) (s : ByteArray) (hn : c.ins.length ≤ 1048576) (hm : c.pats.length ≤ 1048576) (hs : s.size ≤ maxLen) : FCon Try.prog 29 [.ag c.enc, .ag (MIns.mk 4 a b s).enc] (fun r _ => r = .s (.bool (insM c.ins.length c.pats.length ⟨4, a, b, s⟩))) := by
  have e : insM c.ins.length c.pats.length ⟨4, a, b, s⟩ = (decide (0 ≤ a) && decide (a ≤ 1) && (b == 0) && shapeM s a.toNat true) := by unfold insM leadsM; simp
  rw [e]
  by_cases h0 : a = 0
  · subst h0
    refine FCon.intro PM _ Try.func29 (by kernel_rfl) rfl _ Try.ntmps29 rfl [(6, 5, [], [], (lin [] [0, 1, 2, 3, 4]))] (by decide +kernel) (by simp) (by simp) rfl (by first | rfl | simp only [go_sem]) ?_
    (have hWf := WFx.mk (And.intro @MCode.enc_eq <| And.intro @MIns.enc_eq <| @lit0); repeat' (first | refine zS ?_ | exact zE | with_reducible apply And.intro | ((with_reducible apply q_CallG); refine zG (c_l04ConOk s hs 0 _) ?_) | ((with_reducible apply q_CallQ); refine CallQ_mk (c_l04ConOk s hs 0 _) ?_) | ((with_reducible intro hb0); revert hb0; with_reducible first | exact zB0 | refine zB fun hb => ?_ | fail) | ((with_reducible apply q_Meet); exact zM) | exact zC | refine zT ?_ | fail))
    all_goals (first | rfl | exact sB (by simp) | trace_state)
  · by_cases h1 : a = 1
    · subst h1
      refine FCon.intro PM _ Try.func29 (by kernel_rfl) rfl _ Try.ntmps29 rfl [(6, 5, [], [], (lin [] [0, 1, 2, 3, 4]))] (by decide +kernel) (by simp) (by simp) rfl (by first | rfl | simp only [go_sem]) ?_
      (have hWf := WFx.mk (And.intro @MCode.enc_eq <| And.intro @MIns.enc_eq <| @lit0); repeat' (first | refine zS ?_ | exact zE | with_reducible apply And.intro | ((with_reducible apply q_CallG); refine zG (c_l04ConOk s hs 1 _) ?_) | ((with_reducible apply q_CallQ); refine CallQ_mk (c_l04ConOk s hs 1 _) ?_) | ((with_reducible intro hb0); revert hb0; with_reducible first | exact zB0 | refine zB fun hb => ?_ | fail) | ((with_reducible apply q_Meet); exact zM) | exact zC | refine zT ?_ | fail))
      all_goals (first | rfl | exact sB (by simp) | trace_state)
    · have hw : (decide (0 ≤ a) && decide (a ≤ 1)) = false := by
        rw [Bool.and_eq_false_iff, decide_eq_false_iff_not, decide_eq_false_iff_not]; omega
      have z0 : (a == 0) = false := by simpa using h0
      have z1 : (a == 1) = false := by simpa using h1
      rw [hw]
      have hC := c_l04ConOkAny s hs a true
      refine FCon.intro PM _ Try.func29 (by kernel_rfl) rfl _ Try.ntmps29 rfl [(6, 5, [], [], (lin [] [0, 1, 2, 3, 4]))] (by decide +kernel) (by simp) (by simp) rfl (by first | rfl | simp only [go_sem]) ?_
      (have hWf := WFx.mk (And.intro @MCode.enc_eq <| And.intro @MIns.enc_eq <| And.intro @lit0 <| And.intro @z0 <| @z1); repeat' (first | refine zS ?_ | exact zE | with_reducible apply And.intro | refine zK (hC) ?_ | ((with_reducible intro hb0); revert hb0; with_reducible first | exact zB0 | refine zB fun hb => ?_ | fail) | ((with_reducible apply q_Meet); exact zM) | exact zC | refine zT ?_ | fail))
      all_goals (first | rfl | exact sB (by simp) | trace_state)
set_option maxRecDepth 100000 in
set_option maxHeartbeats 8000000 in
theorem spec_l10InsOk_giv (c : MCode) (a b : Int) (s : ByteArray) (hn : c.ins.length ≤ 1048576) (hm : c.pats.length ≤ 1048576) (hs : s.size ≤ maxLen) : FCon Try.prog 29 [.ag c.enc, .ag (MIns.mk 7 a b s).enc] (fun r _ => r = .s (.bool (insM c.ins.length c.pats.length ⟨7, a, b, s⟩))) := by
  have e : insM c.ins.length c.pats.length ⟨7, a, b, s⟩ = ((a == 0) && (b == 0) && givenM s) := by unfold insM leadsM; simp
  rw [e]
  refine FCon.intro PM _ Try.func29 (by kernel_rfl) rfl _ Try.ntmps29 rfl [(6, 5, [], [], (lin [] [0, 1, 2, 3, 4]))] (by decide +kernel) (by simp) (by simp) rfl (by first | rfl | simp only [go_sem]) ?_
  (have hWf := WFx.mk (And.intro @MCode.enc_eq <| And.intro @MIns.enc_eq <| And.intro @lit0 <| And.intro @litPrint <| And.intro @litSay <| And.intro @litRead <| @litSize); repeat' (first | refine zS ?_ | exact zE | with_reducible apply And.intro | ((with_reducible intro hb0); revert hb0; with_reducible first | exact zB0 | refine zB fun hb => ?_ | fail) | ((with_reducible apply q_Meet); exact zM) | exact zC | refine zT ?_ | fail))
  all_goals (first | rfl | exact sB (by unfold givenM; rfl) | exact sB (by unfold givenM; grind) | trace_state)
set_option maxRecDepth 100000 in
set_option maxHeartbeats 8000000 in
theorem spec_l10InsOk_pri (c : MCode) (a b : Int) (s : ByteArray) (hn : c.ins.length ≤ 1048576) (hm : c.pats.length ≤ 1048576) (hs : s.size ≤ maxLen) : FCon Try.prog 29 [.ag c.enc, .ag (MIns.mk 16 a b s).enc] (fun r _ => r = .s (.bool (insM c.ins.length c.pats.length ⟨16, a, b, s⟩))) := by
  have e : insM c.ins.length c.pats.length ⟨16, a, b, s⟩ = ((a == 0) && (b == 0) && primM s) := by unfold insM leadsM; simp
  rw [e]
  refine FCon.intro PM _ Try.func29 (by kernel_rfl) rfl _ Try.ntmps29 rfl [(6, 5, [], [], (lin [] [0, 1, 2, 3, 4]))] (by decide +kernel) (by simp) (by simp) rfl (by first | rfl | simp only [go_sem]) ?_
  (have hWf := WFx.mk (And.intro @MCode.enc_eq <| And.intro @MIns.enc_eq <| @lit0); repeat' (first | refine zS ?_ | exact zE | with_reducible apply And.intro | refine zK (c_l04Prim s) ?_ | ((with_reducible intro hb0); revert hb0; with_reducible first | exact zB0 | refine zB fun hb => ?_ | fail) | ((with_reducible apply q_Meet); exact zM) | exact zC | refine zT ?_ | fail))
  all_goals (first | rfl | exact sB (by simp) | trace_state)
set_option maxRecDepth 100000 in
set_option maxHeartbeats 8000000 in
theorem spec_l10InsOk_out (c : MCode) (op : Int) (hop : op < 1 ∨ 25 < op) (a b : Int) (s : ByteArray) (hn : c.ins.length ≤ 1048576) (hm : c.pats.length ≤ 1048576) (hs : s.size ≤ maxLen) : FCon Try.prog 29 [.ag c.enc, .ag (MIns.mk op a b s).enc] (fun r _ => r = .s (.bool (insM c.ins.length c.pats.length ⟨op, a, b, s⟩))) := by
  have e1 : (op == 1) = false := by simp only [beq_eq_false_iff_ne, ne_eq]; omega
  have e2 : (op == 2) = false := by simp only [beq_eq_false_iff_ne, ne_eq]; omega
  have e3 : (op == 3) = false := by simp only [beq_eq_false_iff_ne, ne_eq]; omega
  have e4 : (op == 4) = false := by simp only [beq_eq_false_iff_ne, ne_eq]; omega
  have e5 : (op == 5) = false := by simp only [beq_eq_false_iff_ne, ne_eq]; omega
  have e6 : (op == 6) = false := by simp only [beq_eq_false_iff_ne, ne_eq]; omega
  have e7 : (op == 7) = false := by simp only [beq_eq_false_iff_ne, ne_eq]; omega
  have e8 : (op == 8) = false := by simp only [beq_eq_false_iff_ne, ne_eq]; omega
  have e9 : (op == 9) = false := by simp only [beq_eq_false_iff_ne, ne_eq]; omega
  have e10 : (op == 10) = false := by simp only [beq_eq_false_iff_ne, ne_eq]; omega
  have e11 : (op == 11) = false := by simp only [beq_eq_false_iff_ne, ne_eq]; omega
  have e12 : (op == 12) = false := by simp only [beq_eq_false_iff_ne, ne_eq]; omega
  have e13 : (op == 13) = false := by simp only [beq_eq_false_iff_ne, ne_eq]; omega
  have e14 : (op == 14) = false := by simp only [beq_eq_false_iff_ne, ne_eq]; omega
  have e15 : (op == 15) = false := by simp only [beq_eq_false_iff_ne, ne_eq]; omega
  have e16 : (op == 16) = false := by simp only [beq_eq_false_iff_ne, ne_eq]; omega
  have e17 : (op == 17) = false := by simp only [beq_eq_false_iff_ne, ne_eq]; omega
  have e18 : (op == 18) = false := by simp only [beq_eq_false_iff_ne, ne_eq]; omega
  have e19 : (op == 19) = false := by simp only [beq_eq_false_iff_ne, ne_eq]; omega
  have e20 : (op == 20) = false := by simp only [beq_eq_false_iff_ne, ne_eq]; omega
  have e21 : (op == 21) = false := by simp only [beq_eq_false_iff_ne, ne_eq]; omega
  have e22 : (op == 22) = false := by simp only [beq_eq_false_iff_ne, ne_eq]; omega
  have e23 : (op == 23) = false := by simp only [beq_eq_false_iff_ne, ne_eq]; omega
  have e24 : (op == 24) = false := by simp only [beq_eq_false_iff_ne, ne_eq]; omega
  have e25 : (op == 25) = false := by simp only [beq_eq_false_iff_ne, ne_eq]; omega
  have hi : insM c.ins.length c.pats.length ⟨op, a, b, s⟩ = false := by
    unfold insM
    rw [show leadsM op = false by unfold leadsM; simp [e8, e9, e12, e13, e18]]
    rw [if_neg (by simp), if_neg (by dsimp only; omega), if_neg (by dsimp only; omega), if_neg (by dsimp only; omega), if_neg (by dsimp only; omega), if_neg (by dsimp only; omega), if_neg (by dsimp only; omega), if_neg (by dsimp only; omega)]
    rcases hop with h | h
    · rw [decide_eq_false (by omega : ¬ 1 ≤ op)]; rfl
    · rw [decide_eq_false (by omega : ¬ op ≤ 25)]; simp
  rw [hi]
  refine FCon.intro PM _ Try.func29 (by kernel_rfl) rfl _ Try.ntmps29 rfl [(6, 5, [], [], (lin [] [0, 1, 2, 3, 4]))] (by decide +kernel) (by simp) (by simp) rfl (by first | rfl | simp only [go_sem]) ?_
  (have hWf := WFx.mk (And.intro @MCode.enc_eq <| And.intro @MIns.enc_eq <| And.intro @lit0 <| And.intro @e1 <| And.intro @e2 <| And.intro @e3 <| And.intro @e4 <| And.intro @e5 <| And.intro @e6 <| And.intro @e7 <| And.intro @e8 <| And.intro @e9 <| And.intro @e10 <| And.intro @e11 <| And.intro @e12 <| And.intro @e13 <| And.intro @e14 <| And.intro @e15 <| And.intro @e16 <| And.intro @e17 <| And.intro @e18 <| And.intro @e19 <| And.intro @e20 <| And.intro @e21 <| And.intro @e22 <| And.intro @e23 <| And.intro @e24 <| @e25); repeat' (first | refine zS ?_ | exact zE | with_reducible apply And.intro | ((with_reducible intro hb0); revert hb0; with_reducible first | exact zB0 | refine zB fun hb => ?_ | fail) | ((with_reducible apply q_Meet); exact zM) | exact zC | refine zT ?_ | fail))
  all_goals (first | rfl | exact sB (by simp; omega) | (refine sB ?_; rcases hop with h | h; · rw [show decide (op ≥ 1) = false from decide_eq_false (by omega)]; simp; · rw [show decide (op ≤ 25) = false from decide_eq_false (by omega)]; simp) | trace_state)
theorem c_l10InsOk (c : MCode) (x : MIns) (hx : x.ok) (hn : c.ins.length ≤ 1048576) (hm : c.pats.length ≤ 1048576) : FCon Try.prog 29 [.ag c.enc, .ag x.enc] (fun r _ => r = .s (.bool (insM c.ins.length c.pats.length x))) := by
  obtain ⟨op, a, b, s⟩ := x
  have hs : s.size ≤ maxLen := hx.2.2.2
  by_cases h : op < 1 ∨ 25 < op
  · exact spec_l10InsOk_out c op h a b s hn hm hs
  · rcases (show op = 1 ∨ op = 2 ∨ op = 3 ∨ op = 4 ∨ op = 5 ∨ op = 6 ∨ op = 7 ∨ op = 8 ∨ op = 9 ∨ op = 10 ∨ op = 11 ∨ op = 12 ∨ op = 13 ∨ op = 14 ∨ op = 15 ∨ op = 16 ∨ op = 17 ∨ op = 18 ∨ op = 19 ∨ op = 20 ∨ op = 21 ∨ op = 22 ∨ op = 23 ∨ op = 24 ∨ op = 25 by omega) with rfl | rfl | rfl | rfl | rfl | rfl | rfl | rfl | rfl | rfl | rfl | rfl | rfl | rfl | rfl | rfl | rfl | rfl | rfl | rfl | rfl | rfl | rfl | rfl | rfl
    · exact spec_l10InsOk_int c a b s hn hm hs
    · exact spec_l10InsOk_f c 2 a b s (rfl) hn hm hs
    · exact spec_l10InsOk_g c 3 a b s (.inl rfl) hn hm hs
    · exact spec_l10InsOk_con c a b s hn hm hs
    · exact spec_l10InsOk_g c 5 a b s (.inr (.inl rfl)) hn hm hs
    · exact spec_l10InsOk_d c 6 a b s (.inl rfl) hn hm hs
    · exact spec_l10InsOk_giv c a b s hn hm hs
    · exact spec_l10InsOk_a c 8 a b s (.inl rfl) hn hm hs
    · exact spec_l10InsOk_a c 9 a b s (.inr (.inl rfl)) hn hm hs
    · exact spec_l10InsOk_g c 10 a b s (.inr (.inr (.inl rfl))) hn hm hs
    · exact spec_l10InsOk_g c 11 a b s (.inr (.inr (.inr (rfl)))) hn hm hs
    · exact spec_l10InsOk_a c 12 a b s (.inr (.inr (rfl))) hn hm hs
    · exact spec_l10InsOk_b c 13 a b s (.inl rfl) hn hm hs
    · exact spec_l10InsOk_h c 14 a b s (.inl rfl) hn hm hs
    · exact spec_l10InsOk_d c 15 a b s (.inr (rfl)) hn hm hs
    · exact spec_l10InsOk_pri c a b s hn hm hs
    · exact spec_l10InsOk_h c 17 a b s (.inr (.inl rfl)) hn hm hs
    · exact spec_l10InsOk_b c 18 a b s (.inr (rfl)) hn hm hs
    · exact spec_l10InsOk_h c 19 a b s (.inr (.inr (rfl))) hn hm hs
    · exact spec_l10InsOk_c c 20 a b s (rfl) hn hm hs
    · exact spec_l10InsOk_i c 21 a b s (.inl rfl) hn hm hs
    · exact spec_l10InsOk_i c 22 a b s (.inr (.inl rfl)) hn hm hs
    · exact spec_l10InsOk_i c 23 a b s (.inr (.inr (rfl))) hn hm hs
    · exact spec_l10InsOk_j c 24 a b s (.inl rfl) hn hm hs
    · exact spec_l10InsOk_j c 25 a b s (.inr (rfl)) hn hm hs
end Go.Proofs.Ythkgncddilkmbaa
