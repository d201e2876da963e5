import Derived.Test.YthkgncddilkmbaaHCodeM
import Derived.Test.YthkgncddilkmbaaHPatOk
/- Instructions by themselves, both sides, over the second engine. Printed by ins2.py. -/
namespace Go.Proofs.Ythkgncddilkmbaa
set_option linter.unusedVariables false
set_option linter.unusedSimpArgs false
open Go.RowKit
theorem litPrint : (⟨#[112, 114, 105, 110, 116]⟩ : ByteArray).toList = [112, 114, 105, 110, 116] := by kernel_rfl
theorem litSay : (⟨#[115, 97, 121]⟩ : ByteArray).toList = [115, 97, 121] := by kernel_rfl
theorem litRead : (⟨#[114, 101, 97, 100]⟩ : ByteArray).toList = [114, 101, 97, 100] := by kernel_rfl
theorem litSize : (⟨#[115, 105, 122, 101]⟩ : ByteArray).toList = [115, 105, 122, 101] := by kernel_rfl
set_option maxRecDepth 100000 in
set_option maxHeartbeats 1000000 in
theorem c_given_t (s : ByteArray) (h : givenM s = true) : ∃ rows, rows.isEmpty = false ∧ FCon Try.prog 61 [.s (.string s)] (fun r _ => r = .sl 3 rows) := by
  unfold givenM at h
  simp only [Bool.or_eq_true, beq_iff_eq] at h
  rcases h with ((h | h) | h) | h
  · refine ⟨[[.s (.int .i64 0), .s (.string ⟨#[45, 62]⟩), .s (.int .i64 2)], [.s (.int .i64 0), .s (.string ⟨#[105, 110, 116]⟩), .s (.int .i64 0)], [.s (.int .i64 0), .s (.string ⟨#[117, 110, 105, 116]⟩), .s (.int .i64 0)]], rfl, FCon.ice ?_⟩
    have e0 : (s.toList == [112, 114, 105, 110, 116]) = true := by rw [h]; decide
    refine FCon.intro PM _ Try.func61 (by kernel_rfl) rfl _ Try.ntmps61 rfl [] (by decide +kernel) (by simp) (by simp) rfl (by first | rfl | simp only [go_sem]) ?_
    (have hWf := WFx.mk (And.intro @litPrint <| And.intro @litSay <| And.intro @litRead <| And.intro @litSize <| @e0); repeat' (first | refine zS ?_ | exact zE | with_reducible apply And.intro | ((with_reducible intro hb0); revert hb0; with_reducible first | exact zB0 | refine zB fun hb => ?_ | fail) | ((with_reducible apply q_Meet); exact zM) | exact zC | refine zT ?_ | fail))
    all_goals rfl
  · refine ⟨[[.s (.int .i64 0), .s (.string ⟨#[45, 62]⟩), .s (.int .i64 2)], [.s (.int .i64 0), .s (.string ⟨#[115, 116, 114, 105, 110, 103]⟩), .s (.int .i64 0)], [.s (.int .i64 0), .s (.string ⟨#[117, 110, 105, 116]⟩), .s (.int .i64 0)]], rfl, FCon.ice ?_⟩
    have e0 : (s.toList == [112, 114, 105, 110, 116]) = false := by rw [h]; decide
    have e1 : (s.toList == [115, 97, 121]) = true := by rw [h]; decide
    refine FCon.intro PM _ Try.func61 (by kernel_rfl) rfl _ Try.ntmps61 rfl [] (by decide +kernel) (by simp) (by simp) rfl (by first | rfl | simp only [go_sem]) ?_
    (have hWf := WFx.mk (And.intro @litPrint <| And.intro @litSay <| And.intro @litRead <| And.intro @litSize <| And.intro @e0 <| @e1); repeat' (first | refine zS ?_ | exact zE | with_reducible apply And.intro | ((with_reducible intro hb0); revert hb0; with_reducible first | exact zB0 | refine zB fun hb => ?_ | fail) | ((with_reducible apply q_Meet); exact zM) | exact zC | refine zT ?_ | fail))
    all_goals rfl
  · refine ⟨[[.s (.int .i64 0), .s (.string ⟨#[45, 62]⟩), .s (.int .i64 2)], [.s (.int .i64 0), .s (.string ⟨#[117, 110, 105, 116]⟩), .s (.int .i64 0)], [.s (.int .i64 0), .s (.string ⟨#[105, 110, 116]⟩), .s (.int .i64 0)]], rfl, FCon.ice ?_⟩
    have e0 : (s.toList == [112, 114, 105, 110, 116]) = false := by rw [h]; decide
    have e1 : (s.toList == [115, 97, 121]) = false := by rw [h]; decide
    have e2 : (s.toList == [114, 101, 97, 100]) = true := by rw [h]; decide
    refine FCon.intro PM _ Try.func61 (by kernel_rfl) rfl _ Try.ntmps61 rfl [] (by decide +kernel) (by simp) (by simp) rfl (by first | rfl | simp only [go_sem]) ?_
    (have hWf := WFx.mk (And.intro @litPrint <| And.intro @litSay <| And.intro @litRead <| And.intro @litSize <| And.intro @e0 <| And.intro @e1 <| @e2); repeat' (first | refine zS ?_ | exact zE | with_reducible apply And.intro | ((with_reducible intro hb0); revert hb0; with_reducible first | exact zB0 | refine zB fun hb => ?_ | fail) | ((with_reducible apply q_Meet); exact zM) | exact zC | refine zT ?_ | fail))
    all_goals rfl
  · refine ⟨[[.s (.int .i64 0), .s (.string ⟨#[45, 62]⟩), .s (.int .i64 2)], [.s (.int .i64 0), .s (.string ⟨#[115, 116, 114, 105, 110, 103]⟩), .s (.int .i64 0)], [.s (.int .i64 0), .s (.string ⟨#[105, 110, 116]⟩), .s (.int .i64 0)]], rfl, FCon.ice ?_⟩
    have e0 : (s.toList == [112, 114, 105, 110, 116]) = false := by rw [h]; decide
    have e1 : (s.toList == [115, 97, 121]) = false := by rw [h]; decide
    have e2 : (s.toList == [114, 101, 97, 100]) = false := by rw [h]; decide
    have e3 : (s.toList == [115, 105, 122, 101]) = true := by rw [h]; decide
    refine FCon.intro PM _ Try.func61 (by kernel_rfl) rfl _ Try.ntmps61 rfl [] (by decide +kernel) (by simp) (by simp) rfl (by first | rfl | simp only [go_sem]) ?_
    (have hWf := WFx.mk (And.intro @litPrint <| And.intro @litSay <| And.intro @litRead <| And.intro @litSize <| And.intro @e0 <| And.intro @e1 <| And.intro @e2 <| @e3); repeat' (first | refine zS ?_ | exact zE | with_reducible apply And.intro | ((with_reducible intro hb0); revert hb0; with_reducible first | exact zB0 | refine zB fun hb => ?_ | fail) | ((with_reducible apply q_Meet); exact zM) | exact zC | refine zT ?_ | fail))
    all_goals rfl
set_option maxRecDepth 100000 in
theorem c_given_f (s : ByteArray) (h : givenM s = false) : FCon Try.prog 61 [.s (.string s)] (fun r _ => r = .nil) := by
  unfold givenM at h
  simp only [Bool.or_eq_false_iff] at h
  obtain ⟨⟨⟨h1, h2⟩, h3⟩, h4⟩ := h
  refine FCon.intro PM _ Try.func61 (by kernel_rfl) rfl _ Try.ntmps61 rfl [] (by decide +kernel) (by simp) (by simp) rfl (by first | rfl | simp only [go_sem]) ?_
  (have hWf := WFx.mk (And.intro @litPrint <| And.intro @litSay <| And.intro @litRead <| And.intro @litSize <| And.intro @h1 <| And.intro @h2 <| And.intro @h3 <| @h4); repeat' (first | refine zS ?_ | exact zE | with_reducible apply And.intro | ((with_reducible intro hb0); revert hb0; with_reducible first | exact zB0 | refine zB fun hb => ?_ | fail) | ((with_reducible apply q_Meet); exact zM) | exact zC | refine zT ?_ | fail))
set_option maxRecDepth 100000 in
theorem c_leads (op : Int) : FCon Try.prog 20 [.s (.int .i64 op)] (fun r _ => r = .s (.bool (leadsM op))) := by
  refine FCon.intro PM _ Try.func20 (by kernel_rfl) rfl _ Try.ntmps20 rfl [] (by decide +kernel) (by simp) (by simp) rfl (by first | rfl | simp only [go_sem]) ?_
  (have hWf := f0; repeat' (first | refine zS ?_ | exact zE | with_reducible apply And.intro | ((with_reducible intro hb0); revert hb0; with_reducible first | exact zB0 | refine zB fun hb => ?_ | fail) | ((with_reducible apply q_Meet); exact zM) | exact zC | refine zT ?_ | fail))
  all_goals rfl
set_option maxRecDepth 100000 in
theorem c_l10Place (c : MCode) (a : Int) : FCon Try.prog 51 [.ag c.enc, .s (.int .i64 a)] (fun r _ => r = .s (.bool (decide (0 ≤ a) && decide (a < (c.ins.length : Int))))) := by
  refine FCon.intro PM _ Try.func51 (by kernel_rfl) rfl _ Try.ntmps51 rfl [] (by decide +kernel) (by simp) (by simp) rfl (by first | rfl | simp only [go_sem]) ?_
  (have hWf := WFx.mk @MCode.enc_eq; repeat' (first | refine zS ?_ | exact zE | with_reducible apply And.intro | ((with_reducible intro hb0); revert hb0; with_reducible first | exact zB0 | refine zB fun hb => ?_ | fail) | ((with_reducible apply q_Meet); exact zM) | exact zC | refine zT ?_ | fail))
  all_goals (first | rfl | exact ⟨_, rfl⟩ | exact sB (by simp) | trace_state)
set_option maxRecDepth 100000 in
set_option maxHeartbeats 8000000 in
theorem impl_insOk_a (c : MCode) (op a b : Int) (s : ByteArray) (hop : op = 8 ∨ op = 9 ∨ op = 12) (hn : c.ins.length ≤ 1048576) (hm : c.pats.length ≤ 1048576) (hs : s.size ≤ maxLen) : FCon Try.prog 41 [.ag c.enc, .ag (MIns.mk op a b s).enc] (fun r _ => r = .s (.bool (insM c.ins.length c.pats.length ⟨op, a, b, s⟩))) := by
  have hL : FCon Try.prog 20 [.s (.int .i64 op)] (fun r _ => r = .s (.bool true)) := by
    have h := c_leads op
    rwa [show leadsM op = true by rcases hop with rfl | rfl | rfl <;> decide] at h
  rcases hop with rfl | rfl | rfl
  all_goals
    refine FCon.intro PM _ Try.func41 (by kernel_rfl) rfl _ Try.ntmps41 rfl [(21, 12, [], [], (lin [] [0, 1, 2, 3, 4, 5, 6, 7, 8, 9, 10, 11]))] (by decide +kernel) (by simp) (by simp) rfl (by first | rfl | simp only [go_sem]) ?_
    (have hWf := WFx.mk (And.intro @MCode.enc_eq <| And.intro @MIns.enc_eq <| @lit0); repeat' (first | refine zS ?_ | exact zE | with_reducible apply And.intro | refine zK (hL) ?_ | ((with_reducible apply q_CallG); refine zG (c_within _ _ _) ?_) | ((with_reducible apply q_CallQ); refine CallQ_mk (c_within _ _ _) ?_) | ((with_reducible apply q_CallG); refine zG (c_conShape s hs _ _) ?_) | ((with_reducible apply q_CallQ); refine CallQ_mk (c_conShape s hs _ _) ?_) | refine zK (c_primOps) ?_ | refine zK (c_prims s) ?_ | ((with_reducible intro hb0); revert hb0; with_reducible first | exact zB0 | refine zB fun hb => ?_ | fail) | ((with_reducible apply q_Meet); exact zM) | exact zC | refine zT ?_ | fail))
    all_goals first
    | exact fun h => ⟨h, by omega, by omega⟩
    | exact fun h => ⟨h, by omega⟩
    | (refine sB ?_; unfold insM leadsM; simp; done)
    | (refine sB ?_; unfold insM leadsM; simp; grind)
    | (refine sB ?_; unfold insM leadsM; rw [Bool.eq_iff_iff]; simp; omega)
    | (trace_state; sorry)
set_option maxRecDepth 100000 in
set_option maxHeartbeats 8000000 in
theorem impl_insOk_b (c : MCode) (op a b : Int) (s : ByteArray) (hop : op = 13 ∨ op = 18) (hn : c.ins.length ≤ 1048576) (hm : c.pats.length ≤ 1048576) (hs : s.size ≤ maxLen) : FCon Try.prog 41 [.ag c.enc, .ag (MIns.mk op a b s).enc] (fun r _ => r = .s (.bool (insM c.ins.length c.pats.length ⟨op, a, b, s⟩))) := by
  have hL : FCon Try.prog 20 [.s (.int .i64 op)] (fun r _ => r = .s (.bool true)) := by
    have h := c_leads op
    rwa [show leadsM op = true by rcases hop with rfl | rfl <;> decide] at h
  rcases hop with rfl | rfl
  all_goals
    refine FCon.intro PM _ Try.func41 (by kernel_rfl) rfl _ Try.ntmps41 rfl [(21, 12, [], [], (lin [] [0, 1, 2, 3, 4, 5, 6, 7, 8, 9, 10, 11]))] (by decide +kernel) (by simp) (by simp) rfl (by first | rfl | simp only [go_sem]) ?_
    (have hWf := WFx.mk (And.intro @MCode.enc_eq <| And.intro @MIns.enc_eq <| @lit0); repeat' (first | refine zS ?_ | exact zE | with_reducible apply And.intro | refine zK (hL) ?_ | ((with_reducible apply q_CallG); refine zG (c_within _ _ _) ?_) | ((with_reducible apply q_CallQ); refine CallQ_mk (c_within _ _ _) ?_) | ((with_reducible apply q_CallG); refine zG (c_conShape s hs _ _) ?_) | ((with_reducible apply q_CallQ); refine CallQ_mk (c_conShape s hs _ _) ?_) | refine zK (c_primOps) ?_ | refine zK (c_prims s) ?_ | ((with_reducible intro hb0); revert hb0; with_reducible first | exact zB0 | refine zB fun hb => ?_ | fail) | ((with_reducible apply q_Meet); exact zM) | exact zC | refine zT ?_ | fail))
    all_goals first
    | exact fun h => ⟨h, by omega, by omega⟩
    | exact fun h => ⟨h, by omega⟩
    | (refine sB ?_; unfold insM leadsM; simp; done)
    | (refine sB ?_; unfold insM leadsM; simp; grind)
    | (refine sB ?_; unfold insM leadsM; rw [Bool.eq_iff_iff]; simp; omega)
    | (trace_state; sorry)
set_option maxRecDepth 100000 in
set_option maxHeartbeats 8000000 in
theorem impl_insOk_c (c : MCode) (op a b : Int) (s : ByteArray) (hop : op = 20) (hn : c.ins.length ≤ 1048576) (hm : c.pats.length ≤ 1048576) (hs : s.size ≤ maxLen) : FCon Try.prog 41 [.ag c.enc, .ag (MIns.mk op a b s).enc] (fun r _ => r = .s (.bool (insM c.ins.length c.pats.length ⟨op, a, b, s⟩))) := by
  have hL : FCon Try.prog 20 [.s (.int .i64 op)] (fun r _ => r = .s (.bool false)) := by
    have h := c_leads op
    rwa [show leadsM op = false by rcases hop with rfl <;> decide] at h
  rcases hop with rfl
  all_goals
    refine FCon.intro PM _ Try.func41 (by kernel_rfl) rfl _ Try.ntmps41 rfl [(21, 12, [], [], (lin [] [0, 1, 2, 3, 4, 5, 6, 7, 8, 9, 10, 11]))] (by decide +kernel) (by simp) (by simp) rfl (by first | rfl | simp only [go_sem]) ?_
    (have hWf := WFx.mk (And.intro @MCode.enc_eq <| And.intro @MIns.enc_eq <| @lit0); repeat' (first | refine zS ?_ | exact zE | with_reducible apply And.intro | refine zK (hL) ?_ | ((with_reducible apply q_CallG); refine zG (c_within _ _ _) ?_) | ((with_reducible apply q_CallQ); refine CallQ_mk (c_within _ _ _) ?_) | ((with_reducible apply q_CallG); refine zG (c_conShape s hs _ _) ?_) | ((with_reducible apply q_CallQ); refine CallQ_mk (c_conShape s hs _ _) ?_) | refine zK (c_primOps) ?_ | refine zK (c_prims s) ?_ | ((with_reducible intro hb0); revert hb0; with_reducible first | exact zB0 | refine zB fun hb => ?_ | fail) | ((with_reducible apply q_Meet); exact zM) | exact zC | refine zT ?_ | fail))
    all_goals first
    | exact fun h => ⟨h, by omega, by omega⟩
    | exact fun h => ⟨h, by omega⟩
    | (refine sB ?_; unfold insM leadsM; simp; done)
    | (refine sB ?_; unfold insM leadsM; simp; grind)
    | (refine sB ?_; unfold insM leadsM; rw [Bool.eq_iff_iff]; simp; omega)
    | (trace_state; sorry)
set_option maxRecDepth 100000 in
set_option maxHeartbeats 8000000 in
theorem impl_insOk_d (c : MCode) (op a b : Int) (s : ByteArray) (hop : op = 6 ∨ op = 15) (hn : c.ins.length ≤ 1048576) (hm : c.pats.length ≤ 1048576) (hs : s.size ≤ maxLen) : FCon Try.prog 41 [.ag c.enc, .ag (MIns.mk op a b s).enc] (fun r _ => r = .s (.bool (insM c.ins.length c.pats.length ⟨op, a, b, s⟩))) := by
  have hL : FCon Try.prog 20 [.s (.int .i64 op)] (fun r _ => r = .s (.bool false)) := by
    have h := c_leads op
    rwa [show leadsM op = false by rcases hop with rfl | rfl <;> decide] at h
  rcases hop with rfl | rfl
  all_goals
    refine FCon.intro PM _ Try.func41 (by kernel_rfl) rfl _ Try.ntmps41 rfl [(21, 12, [], [], (lin [] [0, 1, 2, 3, 4, 5, 6, 7, 8, 9, 10, 11]))] (by decide +kernel) (by simp) (by simp) rfl (by first | rfl | simp only [go_sem]) ?_
    (have hWf := WFx.mk (And.intro @MCode.enc_eq <| And.intro @MIns.enc_eq <| @lit0); repeat' (first | refine zS ?_ | exact zE | with_reducible apply And.intro | refine zK (hL) ?_ | ((with_reducible apply q_CallG); refine zG (c_within _ _ _) ?_) | ((with_reducible apply q_CallQ); refine CallQ_mk (c_within _ _ _) ?_) | ((with_reducible apply q_CallG); refine zG (c_conShape s hs _ _) ?_) | ((with_reducible apply q_CallQ); refine CallQ_mk (c_conShape s hs _ _) ?_) | refine zK (c_primOps) ?_ | refine zK (c_prims s) ?_ | ((with_reducible intro hb0); revert hb0; with_reducible first | exact zB0 | refine zB fun hb => ?_ | fail) | ((with_reducible apply q_Meet); exact zM) | exact zC | refine zT ?_ | fail))
    all_goals first
    | exact fun h => ⟨h, by omega, by omega⟩
    | exact fun h => ⟨h, by omega⟩
    | (refine sB ?_; unfold insM leadsM; simp; done)
    | (refine sB ?_; unfold insM leadsM; simp; grind)
    | (refine sB ?_; unfold insM leadsM; rw [Bool.eq_iff_iff]; simp; omega)
    | (trace_state; sorry)
set_option maxRecDepth 100000 in
set_option maxHeartbeats 8000000 in
theorem impl_insOk_e (c : MCode) (op a b : Int) (s : ByteArray) (hop : op = 1) (hn : c.ins.length ≤ 1048576) (hm : c.pats.length ≤ 1048576) (hs : s.size ≤ maxLen) : FCon Try.prog 41 [.ag c.enc, .ag (MIns.mk op a b s).enc] (fun r _ => r = .s (.bool (insM c.ins.length c.pats.length ⟨op, a, b, s⟩))) := by
  have hL : FCon Try.prog 20 [.s (.int .i64 op)] (fun r _ => r = .s (.bool false)) := by
    have h := c_leads op
    rwa [show leadsM op = false by rcases hop with rfl <;> decide] at h
  rcases hop with rfl
  all_goals
    refine FCon.intro PM _ Try.func41 (by kernel_rfl) rfl _ Try.ntmps41 rfl [(21, 12, [], [], (lin [] [0, 1, 2, 3, 4, 5, 6, 7, 8, 9, 10, 11]))] (by decide +kernel) (by simp) (by simp) rfl (by first | rfl | simp only [go_sem]) ?_
    (have hWf := WFx.mk (And.intro @MCode.enc_eq <| And.intro @MIns.enc_eq <| @lit0); repeat' (first | refine zS ?_ | exact zE | with_reducible apply And.intro | refine zK (hL) ?_ | ((with_reducible apply q_CallG); refine zG (c_within _ _ _) ?_) | ((with_reducible apply q_CallQ); refine CallQ_mk (c_within _ _ _) ?_) | ((with_reducible apply q_CallG); refine zG (c_conShape s hs _ _) ?_) | ((with_reducible apply q_CallQ); refine CallQ_mk (c_conShape s hs _ _) ?_) | refine zK (c_primOps) ?_ | refine zK (c_prims s) ?_ | ((with_reducible intro hb0); revert hb0; with_reducible first | exact zB0 | refine zB fun hb => ?_ | fail) | ((with_reducible apply q_Meet); exact zM) | exact zC | refine zT ?_ | fail))
    all_goals first
    | exact fun h => ⟨h, by omega, by omega⟩
    | exact fun h => ⟨h, by omega⟩
    | (refine sB ?_; unfold insM leadsM; simp; done)
    | (refine sB ?_; unfold insM leadsM; simp; grind)
    | (refine sB ?_; unfold insM leadsM; rw [Bool.eq_iff_iff]; simp; omega)
    | (trace_state; sorry)
set_option maxRecDepth 100000 in
set_option maxHeartbeats 8000000 in
theorem impl_insOk_f (c : MCode) (op a b : Int) (s : ByteArray) (hop : op = 2) (hn : c.ins.length ≤ 1048576) (hm : c.pats.length ≤ 1048576) (hs : s.size ≤ maxLen) : FCon Try.prog 41 [.ag c.enc, .ag (MIns.mk op a b s).enc] (fun r _ => r = .s (.bool (insM c.ins.length c.pats.length ⟨op, a, b, s⟩))) := by
  have hL : FCon Try.prog 20 [.s (.int .i64 op)] (fun r _ => r = .s (.bool false)) := by
    have h := c_leads op
    rwa [show leadsM op = false by rcases hop with rfl <;> decide] at h
  rcases hop with rfl
  all_goals
    refine FCon.intro PM _ Try.func41 (by kernel_rfl) rfl _ Try.ntmps41 rfl [(21, 12, [], [], (lin [] [0, 1, 2, 3, 4, 5, 6, 7, 8, 9, 10, 11]))] (by decide +kernel) (by simp) (by simp) rfl (by first | rfl | simp only [go_sem]) ?_
    (have hWf := WFx.mk (And.intro @MCode.enc_eq <| And.intro @MIns.enc_eq <| @lit0); repeat' (first | refine zS ?_ | exact zE | with_reducible apply And.intro | refine zK (hL) ?_ | ((with_reducible apply q_CallG); refine zG (c_within _ _ _) ?_) | ((with_reducible apply q_CallQ); refine CallQ_mk (c_within _ _ _) ?_) | ((with_reducible apply q_CallG); refine zG (c_conShape s hs _ _) ?_) | ((with_reducible apply q_CallQ); refine CallQ_mk (c_conShape s hs _ _) ?_) | refine zK (c_primOps) ?_ | refine zK (c_prims s) ?_ | ((with_reducible intro hb0); revert hb0; with_reducible first | exact zB0 | refine zB fun hb => ?_ | fail) | ((with_reducible apply q_Meet); exact zM) | exact zC | refine zT ?_ | fail))
    all_goals first
    | exact fun h => ⟨h, by omega, by omega⟩
    | exact fun h => ⟨h, by omega⟩
    | (refine sB ?_; unfold insM leadsM; simp; done)
    | (refine sB ?_; unfold insM leadsM; simp; grind)
    | (refine sB ?_; unfold insM leadsM; rw [Bool.eq_iff_iff]; simp; omega)
    | (trace_state; sorry)
set_option maxRecDepth 100000 in
set_option maxHeartbeats 8000000 in
theorem impl_insOk_g (c : MCode) (op a b : Int) (s : ByteArray) (hop : op = 3 ∨ op = 5 ∨ op = 10 ∨ op = 11) (hn : c.ins.length ≤ 1048576) (hm : c.pats.length ≤ 1048576) (hs : s.size ≤ maxLen) : FCon Try.prog 41 [.ag c.enc, .ag (MIns.mk op a b s).enc] (fun r _ => r = .s (.bool (insM c.ins.length c.pats.length ⟨op, a, b, s⟩))) := by
  have hL : FCon Try.prog 20 [.s (.int .i64 op)] (fun r _ => r = .s (.bool false)) := by
    have h := c_leads op
    rwa [show leadsM op = false by rcases hop with rfl | rfl | rfl | rfl <;> decide] at h
  rcases hop with rfl | rfl | rfl | rfl
  all_goals
    refine FCon.intro PM _ Try.func41 (by kernel_rfl) rfl _ Try.ntmps41 rfl [(21, 12, [], [], (lin [] [0, 1, 2, 3, 4, 5, 6, 7, 8, 9, 10, 11]))] (by decide +kernel) (by simp) (by simp) rfl (by first | rfl | simp only [go_sem]) ?_
    (have hWf := WFx.mk (And.intro @MCode.enc_eq <| And.intro @MIns.enc_eq <| @lit0); repeat' (first | refine zS ?_ | exact zE | with_reducible apply And.intro | refine zK (hL) ?_ | ((with_reducible apply q_CallG); refine zG (c_within _ _ _) ?_) | ((with_reducible apply q_CallQ); refine CallQ_mk (c_within _ _ _) ?_) | ((with_reducible apply q_CallG); refine zG (c_conShape s hs _ _) ?_) | ((with_reducible apply q_CallQ); refine CallQ_mk (c_conShape s hs _ _) ?_) | refine zK (c_primOps) ?_ | refine zK (c_prims s) ?_ | ((with_reducible intro hb0); revert hb0; with_reducible first | exact zB0 | refine zB fun hb => ?_ | fail) | ((with_reducible apply q_Meet); exact zM) | exact zC | refine zT ?_ | fail))
    all_goals first
    | exact fun h => ⟨h, by omega, by omega⟩
    | exact fun h => ⟨h, by omega⟩
    | (refine sB ?_; unfold insM leadsM; simp; done)
    | (refine sB ?_; unfold insM leadsM; simp; grind)
    | (refine sB ?_; unfold insM leadsM; rw [Bool.eq_iff_iff]; simp; omega)
    | (trace_state; sorry)
set_option maxRecDepth 100000 in
set_option maxHeartbeats 8000000 in
theorem impl_insOk_h (c : MCode) (op a b : Int) (s : ByteArray) (hop : op = 14 ∨ op = 17 ∨ op = 19) (hn : c.ins.length ≤ 1048576) (hm : c.pats.length ≤ 1048576) (hs : s.size ≤ maxLen) : FCon Try.prog 41 [.ag c.enc, .ag (MIns.mk op a b s).enc] (fun r _ => r = .s (.bool (insM c.ins.length c.pats.length ⟨op, a, b, s⟩))) := by
  have hL : FCon Try.prog 20 [.s (.int .i64 op)] (fun r _ => r = .s (.bool false)) := by
    have h := c_leads op
    rwa [show leadsM op = false by rcases hop with rfl | rfl | rfl <;> decide] at h
  rcases hop with rfl | rfl | rfl
  all_goals
    refine FCon.intro PM _ Try.func41 (by kernel_rfl) rfl _ Try.ntmps41 rfl [(21, 12, [], [], (lin [] [0, 1, 2, 3, 4, 5, 6, 7, 8, 9, 10, 11]))] (by decide +kernel) (by simp) (by simp) rfl (by first | rfl | simp only [go_sem]) ?_
    (have hWf := WFx.mk (And.intro @MCode.enc_eq <| And.intro @MIns.enc_eq <| @lit0); repeat' (first | refine zS ?_ | exact zE | with_reducible apply And.intro | refine zK (hL) ?_ | ((with_reducible apply q_CallG); refine zG (c_within _ _ _) ?_) | ((with_reducible apply q_CallQ); refine CallQ_mk (c_within _ _ _) ?_) | ((with_reducible apply q_CallG); refine zG (c_conShape s hs _ _) ?_) | ((with_reducible apply q_CallQ); refine CallQ_mk (c_conShape s hs _ _) ?_) | refine zK (c_primOps) ?_ | refine zK (c_prims s) ?_ | ((with_reducible intro hb0); revert hb0; with_reducible first | exact zB0 | refine zB fun hb => ?_ | fail) | ((with_reducible apply q_Meet); exact zM) | exact zC | refine zT ?_ | fail))
    all_goals first
    | exact fun h => ⟨h, by omega, by omega⟩
    | exact fun h => ⟨h, by omega⟩
    | (refine sB ?_; unfold insM leadsM; simp; done)
    | (refine sB ?_; unfold insM leadsM; simp; grind)
    | (refine sB ?_; unfold insM leadsM; rw [Bool.eq_iff_iff]; simp; omega)
    | (trace_state; sorry)
set_option maxRecDepth 100000 in
set_option maxHeartbeats 8000000 in
theorem impl_insOk_i (c : MCode) (op a b : Int) (s : ByteArray) (hop : op = 21 ∨ op = 22 ∨ op = 23) (hn : c.ins.length ≤ 1048576) (hm : c.pats.length ≤ 1048576) (hs : s.size ≤ maxLen) : FCon Try.prog 41 [.ag c.enc, .ag (MIns.mk op a b s).enc] (fun r _ => r = .s (.bool (insM c.ins.length c.pats.length ⟨op, a, b, s⟩))) := by
  have hL : FCon Try.prog 20 [.s (.int .i64 op)] (fun r _ => r = .s (.bool false)) := by
    have h := c_leads op
    rwa [show leadsM op = false by rcases hop with rfl | rfl | rfl <;> decide] at h
  rcases hop with rfl | rfl | rfl
  all_goals
    refine FCon.intro PM _ Try.func41 (by kernel_rfl) rfl _ Try.ntmps41 rfl [(21, 12, [], [], (lin [] [0, 1, 2, 3, 4, 5, 6, 7, 8, 9, 10, 11]))] (by decide +kernel) (by simp) (by simp) rfl (by first | rfl | simp only [go_sem]) ?_
    (have hWf := WFx.mk (And.intro @MCode.enc_eq <| And.intro @MIns.enc_eq <| @lit0); repeat' (first | refine zS ?_ | exact zE | with_reducible apply And.intro | refine zK (hL) ?_ | ((with_reducible apply q_CallG); refine zG (c_within _ _ _) ?_) | ((with_reducible apply q_CallQ); refine CallQ_mk (c_within _ _ _) ?_) | ((with_reducible apply q_CallG); refine zG (c_conShape s hs _ _) ?_) | ((with_reducible apply q_CallQ); refine CallQ_mk (c_conShape s hs _ _) ?_) | refine zK (c_primOps) ?_ | refine zK (c_prims s) ?_ | ((with_reducible intro hb0); revert hb0; with_reducible first | exact zB0 | refine zB fun hb => ?_ | fail) | ((with_reducible apply q_Meet); exact zM) | exact zC | refine zT ?_ | fail))
    all_goals first
    | exact fun h => ⟨h, by omega, by omega⟩
    | exact fun h => ⟨h, by omega⟩
    | (refine sB ?_; unfold insM leadsM; simp; done)
    | (refine sB ?_; unfold insM leadsM; simp; grind)
    | (refine sB ?_; unfold insM leadsM; rw [Bool.eq_iff_iff]; simp; omega)
    | (trace_state; sorry)
set_option maxRecDepth 100000 in
set_option maxHeartbeats 8000000 in
theorem impl_insOk_j (c : MCode) (op a b : Int) (s : ByteArray) (hop : op = 24 ∨ op = 25) (hn : c.ins.length ≤ 1048576) (hm : c.pats.length ≤ 1048576) (hs : s.size ≤ maxLen) : FCon Try.prog 41 [.ag c.enc, .ag (MIns.mk op a b s).enc] (fun r _ => r = .s (.bool (insM c.ins.length c.pats.length ⟨op, a, b, s⟩))) := by
  have hL : FCon Try.prog 20 [.s (.int .i64 op)] (fun r _ => r = .s (.bool false)) := by
    have h := c_leads op
    rwa [show leadsM op = false by rcases hop with rfl | rfl <;> decide] at h
  rcases hop with rfl | rfl
  all_goals
    refine FCon.intro PM _ Try.func41 (by kernel_rfl) rfl _ Try.ntmps41 rfl [(21, 12, [], [], (lin [] [0, 1, 2, 3, 4, 5, 6, 7, 8, 9, 10, 11]))] (by decide +kernel) (by simp) (by simp) rfl (by first | rfl | simp only [go_sem]) ?_
    (have hWf := WFx.mk (And.intro @MCode.enc_eq <| And.intro @MIns.enc_eq <| @lit0); repeat' (first | refine zS ?_ | exact zE | with_reducible apply And.intro | refine zK (hL) ?_ | ((with_reducible apply q_CallG); refine zG (c_within _ _ _) ?_) | ((with_reducible apply q_CallQ); refine CallQ_mk (c_within _ _ _) ?_) | ((with_reducible apply q_CallG); refine zG (c_conShape s hs _ _) ?_) | ((with_reducible apply q_CallQ); refine CallQ_mk (c_conShape s hs _ _) ?_) | refine zK (c_primOps) ?_ | refine zK (c_prims s) ?_ | ((with_reducible intro hb0); revert hb0; with_reducible first | exact zB0 | refine zB fun hb => ?_ | fail) | ((with_reducible apply q_Meet); exact zM) | exact zC | refine zT ?_ | fail))
    all_goals first
    | exact fun h => ⟨h, by omega, by omega⟩
    | exact fun h => ⟨h, by omega⟩
    | (refine sB ?_; unfold insM leadsM; simp; done)
    | (refine sB ?_; unfold insM leadsM; simp; grind)
    | (refine sB ?_; unfold insM leadsM; rw [Bool.eq_iff_iff]; simp; omega)
    | (trace_state; sorry)
set_option maxRecDepth 100000 in
set_option maxHeartbeats 8000000 in
theorem impl_insOk_con (c : MCode) (a b : Int) (s : ByteArray) (hn : c.ins.length ≤ 1048576) (hm : c.pats.length ≤ 1048576) (hs : s.size ≤ maxLen) : FCon Try.prog 41 [.ag c.enc, .ag (MIns.mk 4 a b s).enc] (fun r _ => r = .s (.bool (insM c.ins.length c.pats.length ⟨4, a, b, s⟩))) := by
  have hL : FCon Try.prog 20 [.s (.int .i64 4)] (fun r _ => r = .s (.bool false)) := by
    have h := c_leads 4
    rwa [show leadsM 4 = false by decide] at h
  have e : insM c.ins.length c.pats.length ⟨4, a, b, s⟩ = (decide (0 ≤ a) && decide (a ≤ 1) && (b == 0) && shapeM s a.toNat true) := by unfold insM leadsM; simp
  rw [e]
  by_cases h0 : a = 0
  · subst h0
    cases hb0 : (b == 0)
    all_goals
      refine FCon.intro PM _ Try.func41 (by kernel_rfl) rfl _ Try.ntmps41 rfl [(21, 12, [], [], (lin [] [0, 1, 2, 3, 4, 5, 6, 7, 8, 9, 10, 11]))] (by decide +kernel) (by simp) (by simp) rfl (by first | rfl | simp only [go_sem]) ?_
      (have hWf := WFx.mk (And.intro @MCode.enc_eq <| And.intro @MIns.enc_eq <| And.intro @lit0 <| @hb0); repeat' (first | refine zS ?_ | exact zE | with_reducible apply And.intro | refine zK (hL) ?_ | ((with_reducible apply q_CallG); refine zG (c_within _ _ _) ?_) | ((with_reducible apply q_CallQ); refine CallQ_mk (c_within _ _ _) ?_) | ((with_reducible apply q_CallG); refine zG (c_conShape s hs 0 _) ?_) | ((with_reducible apply q_CallQ); refine CallQ_mk (c_conShape s hs 0 _) ?_) | ((with_reducible intro hb0); revert hb0; with_reducible first | exact zB0 | refine zB fun hb => ?_ | fail) | ((with_reducible apply q_Meet); exact zM) | exact zC | refine zT ?_ | fail))
      all_goals (first | rfl | exact sB (by simp [hb0]) | trace_state)
  · by_cases h1 : a = 1
    · subst h1
      cases hb0 : (b == 0)
      all_goals
        refine FCon.intro PM _ Try.func41 (by kernel_rfl) rfl _ Try.ntmps41 rfl [(21, 12, [], [], (lin [] [0, 1, 2, 3, 4, 5, 6, 7, 8, 9, 10, 11]))] (by decide +kernel) (by simp) (by simp) rfl (by first | rfl | simp only [go_sem]) ?_
        (have hWf := WFx.mk (And.intro @MCode.enc_eq <| And.intro @MIns.enc_eq <| And.intro @lit0 <| @hb0); repeat' (first | refine zS ?_ | exact zE | with_reducible apply And.intro | refine zK (hL) ?_ | ((with_reducible apply q_CallG); refine zG (c_within _ _ _) ?_) | ((with_reducible apply q_CallQ); refine CallQ_mk (c_within _ _ _) ?_) | ((with_reducible apply q_CallG); refine zG (c_conShape s hs 1 _) ?_) | ((with_reducible apply q_CallQ); refine CallQ_mk (c_conShape s hs 1 _) ?_) | ((with_reducible intro hb0); revert hb0; with_reducible first | exact zB0 | refine zB fun hb => ?_ | fail) | ((with_reducible apply q_Meet); exact zM) | exact zC | refine zT ?_ | fail))
        all_goals (first | rfl | exact sB (by simp [hb0]) | trace_state)
    · have hw : (decide (0 ≤ a) && decide (a ≤ 1)) = false := by
        rw [Bool.and_eq_false_iff, decide_eq_false_iff_not, decide_eq_false_iff_not]; omega
      rw [hw]
      refine FCon.intro (PMr [15]) _ Try.func41 (by kernel_rfl) rfl _ Try.ntmps41 rfl [(21, 12, [], [], (lin [] [0, 1, 2, 3, 4, 5, 6, 7, 8, 9, 10, 11]))] (by decide +kernel) (by simp) (by simp) rfl (by first | rfl | simp only [go_sem]) ?_
      (have hWf := WFx.mk (And.intro @MCode.enc_eq <| And.intro @MIns.enc_eq <| And.intro @lit0 <| @hw); repeat' (first | refine zS ?_ | exact zE | with_reducible apply And.intro | refine zK (hL) ?_ | ((with_reducible apply q_CallG); refine zG (c_within _ _ _) ?_) | ((with_reducible apply q_CallQ); refine CallQ_mk (c_within _ _ _) ?_) | ((with_reducible intro hb0); revert hb0; with_reducible first | exact zB0 | refine zB fun hb => ?_ | fail) | ((with_reducible apply q_Meet); exact zM) | exact zC | refine zT ?_ | fail))
      all_goals (first | rfl | exact ⟨_, rfl⟩ | exact sB (by simp) | trace_state)
set_option maxRecDepth 100000 in
set_option maxHeartbeats 8000000 in
theorem impl_insOk_giv (c : MCode) (a b : Int) (s : ByteArray) (hn : c.ins.length ≤ 1048576) (hm : c.pats.length ≤ 1048576) (hs : s.size ≤ maxLen) : FCon Try.prog 41 [.ag c.enc, .ag (MIns.mk 7 a b s).enc] (fun r _ => r = .s (.bool (insM c.ins.length c.pats.length ⟨7, a, b, s⟩))) := by
  have hL : FCon Try.prog 20 [.s (.int .i64 7)] (fun r _ => r = .s (.bool false)) := by
    have h := c_leads 7
    rwa [show leadsM 7 = false by decide] at h
  have e : insM c.ins.length c.pats.length ⟨7, a, b, s⟩ = ((a == 0) && (b == 0) && givenM s) := by unfold insM leadsM; simp
  rw [e]
  cases ha0 : (a == 0)
  all_goals
    cases hb0 : (b == 0)
    all_goals
      cases hg : givenM s with
      | true =>
        obtain ⟨rows, hr, hG⟩ := c_given_t s hg
        refine FCon.intro (PMr [19]) _ Try.func41 (by kernel_rfl) rfl _ Try.ntmps41 rfl [(21, 12, [], [], (lin [] [0, 1, 2, 3, 4, 5, 6, 7, 8, 9, 10, 11]))] (by decide +kernel) (by simp) (by simp) rfl (by first | rfl | simp only [go_sem]) ?_
        (have hWf := WFx.mk (And.intro @MCode.enc_eq <| And.intro @MIns.enc_eq <| And.intro @lit0 <| And.intro @ha0 <| And.intro @hb0 <| @hr); repeat' (first | refine zS ?_ | exact zE | with_reducible apply And.intro | refine zK (hL) ?_ | refine zK (hG) ?_ | ((with_reducible intro hb0); revert hb0; with_reducible first | exact zB0 | refine zB fun hb => ?_ | fail) | ((with_reducible apply q_Meet); exact zM) | exact zC | refine zT ?_ | fail))
        all_goals (first | rfl | exact ⟨_, rfl⟩ | exact sB (by simp) | trace_state)
      | false =>
        have hG := c_given_f s hg
        refine FCon.intro (PMr [19]) _ Try.func41 (by kernel_rfl) rfl _ Try.ntmps41 rfl [(21, 12, [], [], (lin [] [0, 1, 2, 3, 4, 5, 6, 7, 8, 9, 10, 11]))] (by decide +kernel) (by simp) (by simp) rfl (by first | rfl | simp only [go_sem]) ?_
        (have hWf := WFx.mk (And.intro @MCode.enc_eq <| And.intro @MIns.enc_eq <| And.intro @lit0 <| And.intro @ha0 <| @hb0); repeat' (first | refine zS ?_ | exact zE | with_reducible apply And.intro | refine zK (hL) ?_ | refine zK (hG) ?_ | ((with_reducible intro hb0); revert hb0; with_reducible first | exact zB0 | refine zB fun hb => ?_ | fail) | ((with_reducible apply q_Meet); exact zM) | exact zC | refine zT ?_ | fail))
        all_goals (first | rfl | exact ⟨_, rfl⟩ | exact sB (by simp) | trace_state)
set_option maxRecDepth 100000 in
set_option maxHeartbeats 8000000 in
theorem impl_insOk_pri (c : MCode) (a b : Int) (s : ByteArray) (hn : c.ins.length ≤ 1048576) (hm : c.pats.length ≤ 1048576) (hs : s.size ≤ maxLen) : FCon Try.prog 41 [.ag c.enc, .ag (MIns.mk 16 a b s).enc] (fun r _ => r = .s (.bool (insM c.ins.length c.pats.length ⟨16, a, b, s⟩))) := by
  have hL : FCon Try.prog 20 [.s (.int .i64 16)] (fun r _ => r = .s (.bool false)) := by
    have h := c_leads 16
    rwa [show leadsM 16 = false by decide] at h
  have e : insM c.ins.length c.pats.length ⟨16, a, b, s⟩ = ((a == 0) && (b == 0) && primM s) := by unfold insM leadsM; simp
  rw [e]
  have hP : FCon Try.prog 62 [] (fun r _ => r = .sl 1 (primB.map stE)) := FCon.ice (c_primOps.mono fun r o e => by rw [e]; simp only [frA, stE_frz]; rfl)
  cases ha0 : (a == 0)
  all_goals
    cases hb0 : (b == 0)
    all_goals
      refine FCon.intro (PMr [21]) _ Try.func41 (by kernel_rfl) rfl _ Try.ntmps41 rfl [(21, 12, [], [], (lin [] [0, 1, 2, 3, 4, 5, 6, 7, 8, 9, 10, 11]))] (by decide +kernel) (by simp) (by simp) rfl (by first | rfl | simp only [go_sem]) ?_
      (have hWf := WFx.mk (And.intro @MCode.enc_eq <| And.intro @MIns.enc_eq <| And.intro @lit0 <| And.intro @ha0 <| @hb0); repeat' (first | refine zS ?_ | exact zE | with_reducible apply And.intro | refine zK (hL) ?_ | refine zK (hP) ?_ | refine zK (c_prims s) ?_ | ((with_reducible intro hb0); revert hb0; with_reducible first | exact zB0 | refine zB fun hb => ?_ | fail) | ((with_reducible apply q_Meet); exact zM) | exact zC | refine zT ?_ | fail))
      all_goals (first | rfl | exact ⟨_, rfl⟩ | exact sB (by simp) | trace_state)
set_option maxRecDepth 100000 in
set_option maxHeartbeats 8000000 in
theorem impl_insOk_out (c : MCode) (op : Int) (hop : op < 1 ∨ 25 < op) (a b : Int) (s : ByteArray) (hn : c.ins.length ≤ 1048576) (hm : c.pats.length ≤ 1048576) (hs : s.size ≤ maxLen) : FCon Try.prog 41 [.ag c.enc, .ag (MIns.mk op a b s).enc] (fun r _ => r = .s (.bool (insM c.ins.length c.pats.length ⟨op, a, b, s⟩))) := by
  have e1 : (op == 1) = false := by simp only [beq_eq_false_iff_ne, ne_eq]; omega
  have e2 : (op == 2) = false := by simp only [beq_eq_false_iff_ne, ne_eq]; omega
  have e3 : (op == 3) = false := by simp only [beq_eq_false_iff_ne, ne_eq]; omega
  have e4 : (op == 4) = false := by simp only [beq_eq_false_iff_ne, ne_eq]; omega
  have e5 : (op == 5) = false := by simp only [beq_eq_false_iff_ne, ne_eq]; omega
  have e6 : (op == 6) = false := by simp only [beq_eq_false_iff_ne, ne_eq]; omega
  have e7 : (op == 7) = false := by simp only [beq_eq_false_iff_ne, ne_eq]; omega
  have e8 : (op == 8) = false := by simp only [beq_eq_false_iff_ne, ne_eq]; omega
  have e9 : (op == 9) = false := by simp only [beq_eq_false_iff_ne, ne_eq]; omega
  have e10 : (op == 10) = false := by simp only [beq_eq_false_iff_ne, ne_eq]; omega
  have e11 : (op == 11) = false := by simp only [beq_eq_false_iff_ne, ne_eq]; omega
  have e12 : (op == 12) = false := by simp only [beq_eq_false_iff_ne, ne_eq]; omega
  have e13 : (op == 13) = false := by simp only [beq_eq_false_iff_ne, ne_eq]; omega
  have e14 : (op == 14) = false := by simp only [beq_eq_false_iff_ne, ne_eq]; omega
  have e15 : (op == 15) = false := by simp only [beq_eq_false_iff_ne, ne_eq]; omega
  have e16 : (op == 16) = false := by simp only [beq_eq_false_iff_ne, ne_eq]; omega
  have e17 : (op == 17) = false := by simp only [beq_eq_false_iff_ne, ne_eq]; omega
  have e18 : (op == 18) = false := by simp only [beq_eq_false_iff_ne, ne_eq]; omega
  have e19 : (op == 19) = false := by simp only [beq_eq_false_iff_ne, ne_eq]; omega
  have e20 : (op == 20) = false := by simp only [beq_eq_false_iff_ne, ne_eq]; omega
  have e21 : (op == 21) = false := by simp only [beq_eq_false_iff_ne, ne_eq]; omega
  have e22 : (op == 22) = false := by simp only [beq_eq_false_iff_ne, ne_eq]; omega
  have e23 : (op == 23) = false := by simp only [beq_eq_false_iff_ne, ne_eq]; omega
  have e24 : (op == 24) = false := by simp only [beq_eq_false_iff_ne, ne_eq]; omega
  have e25 : (op == 25) = false := by simp only [beq_eq_false_iff_ne, ne_eq]; omega
  have hL : FCon Try.prog 20 [.s (.int .i64 op)] (fun r _ => r = .s (.bool false)) := by
    have h := c_leads op
    rwa [show leadsM op = false by unfold leadsM; simp [e8, e9, e12, e13, e18]] at h
  have hi : insM c.ins.length c.pats.length ⟨op, a, b, s⟩ = false := by
    unfold insM
    rw [show leadsM op = false by unfold leadsM; simp [e8, e9, e12, e13, e18]]
    rw [if_neg (by simp), if_neg (by dsimp only; omega), if_neg (by dsimp only; omega), if_neg (by dsimp only; omega), if_neg (by dsimp only; omega), if_neg (by dsimp only; omega), if_neg (by dsimp only; omega), if_neg (by dsimp only; omega)]
    rcases hop with h | h
    · rw [decide_eq_false (by omega : ¬ 1 ≤ op)]; rfl
    · rw [decide_eq_false (by omega : ¬ op ≤ 25)]; simp
  have hw : (decide (1 ≤ op) && decide (op ≤ 25)) = false := by
    rw [Bool.and_eq_false_iff, decide_eq_false_iff_not, decide_eq_false_iff_not]; omega
  rw [hi]
  refine FCon.intro PM _ Try.func41 (by kernel_rfl) rfl _ Try.ntmps41 rfl [(21, 12, [], [], (lin [] [0, 1, 2, 3, 4, 5, 6, 7, 8, 9, 10, 11]))] (by decide +kernel) (by simp) (by simp) rfl (by first | rfl | simp only [go_sem]) ?_
  (have hWf := WFx.mk (And.intro @MCode.enc_eq <| And.intro @MIns.enc_eq <| And.intro @lit0 <| And.intro @e1 <| And.intro @e2 <| And.intro @e3 <| And.intro @e4 <| And.intro @e5 <| And.intro @e6 <| And.intro @e7 <| And.intro @e8 <| And.intro @e9 <| And.intro @e10 <| And.intro @e11 <| And.intro @e12 <| And.intro @e13 <| And.intro @e14 <| And.intro @e15 <| And.intro @e16 <| And.intro @e17 <| And.intro @e18 <| And.intro @e19 <| And.intro @e20 <| And.intro @e21 <| And.intro @e22 <| And.intro @e23 <| And.intro @e24 <| And.intro @e25 <| @hw); repeat' (first | refine zS ?_ | exact zE | with_reducible apply And.intro | refine zK (hL) ?_ | ((with_reducible apply q_CallG); refine zG (c_within _ _ _) ?_) | ((with_reducible apply q_CallQ); refine CallQ_mk (c_within _ _ _) ?_) | ((with_reducible intro hb0); revert hb0; with_reducible first | exact zB0 | refine zB fun hb => ?_ | fail) | ((with_reducible apply q_Meet); exact zM) | exact zC | refine zT ?_ | fail))
  all_goals (first | rfl | exact ⟨_, rfl⟩ | exact sB (by simp) | trace_state)
theorem c_insOk (c : MCode) (x : MIns) (hx : x.ok) (hn : c.ins.length ≤ 1048576) (hm : c.pats.length ≤ 1048576) : FCon Try.prog 41 [.ag c.enc, .ag x.enc] (fun r _ => r = .s (.bool (insM c.ins.length c.pats.length x))) := by
  obtain ⟨op, a, b, s⟩ := x
  have hs : s.size ≤ maxLen := hx.2.2.2
  by_cases h : op < 1 ∨ 25 < op
  · exact impl_insOk_out c op h a b s hn hm hs
  · rcases (show op = 1 ∨ op = 2 ∨ op = 3 ∨ op = 4 ∨ op = 5 ∨ op = 6 ∨ op = 7 ∨ op = 8 ∨ op = 9 ∨ op = 10 ∨ op = 11 ∨ op = 12 ∨ op = 13 ∨ op = 14 ∨ op = 15 ∨ op = 16 ∨ op = 17 ∨ op = 18 ∨ op = 19 ∨ op = 20 ∨ op = 21 ∨ op = 22 ∨ op = 23 ∨ op = 24 ∨ op = 25 by omega) with rfl | rfl | rfl | rfl | rfl | rfl | rfl | rfl | rfl | rfl | rfl | rfl | rfl | rfl | rfl | rfl | rfl | rfl | rfl | rfl | rfl | rfl | rfl | rfl | rfl
    · exact impl_insOk_e c 1 a b s (rfl) hn hm hs
    · exact impl_insOk_f c 2 a b s (rfl) hn hm hs
    · exact impl_insOk_g c 3 a b s (.inl rfl) hn hm hs
    · exact impl_insOk_con c a b s hn hm hs
    · exact impl_insOk_g c 5 a b s (.inr (.inl rfl)) hn hm hs
    · exact impl_insOk_d c 6 a b s (.inl rfl) hn hm hs
    · exact impl_insOk_giv c a b s hn hm hs
    · exact impl_insOk_a c 8 a b s (.inl rfl) hn hm hs
    · exact impl_insOk_a c 9 a b s (.inr (.inl rfl)) hn hm hs
    · exact impl_insOk_g c 10 a b s (.inr (.inr (.inl rfl))) hn hm hs
    · exact impl_insOk_g c 11 a b s (.inr (.inr (.inr (rfl)))) hn hm hs
    · exact impl_insOk_a c 12 a b s (.inr (.inr (rfl))) hn hm hs
    · exact impl_insOk_b c 13 a b s (.inl rfl) hn hm hs
    · exact impl_insOk_h c 14 a b s (.inl rfl) hn hm hs
    · exact impl_insOk_d c 15 a b s (.inr (rfl)) hn hm hs
    · exact impl_insOk_pri c a b s hn hm hs
    · exact impl_insOk_h c 17 a b s (.inr (.inl rfl)) hn hm hs
    · exact impl_insOk_b c 18 a b s (.inr (rfl)) hn hm hs
    · exact impl_insOk_h c 19 a b s (.inr (.inr (rfl))) hn hm hs
    · exact impl_insOk_c c 20 a b s (rfl) hn hm hs
    · exact impl_insOk_i c 21 a b s (.inl rfl) hn hm hs
    · exact impl_insOk_i c 22 a b s (.inr (.inl rfl)) hn hm hs
    · exact impl_insOk_i c 23 a b s (.inr (.inr (rfl))) hn hm hs
    · exact impl_insOk_j c 24 a b s (.inl rfl) hn hm hs
    · exact impl_insOk_j c 25 a b s (.inr (rfl)) hn hm hs
end Go.Proofs.Ythkgncddilkmbaa
