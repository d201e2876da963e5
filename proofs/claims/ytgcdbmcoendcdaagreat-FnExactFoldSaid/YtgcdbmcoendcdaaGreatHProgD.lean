import Derived.Test.YtgcdbmcoendcdaaGreatHProgA
import Derived.Test.YtgcdbmcoendcdaaGreatNmB
/- A node of a program, by kinds: the program's text, over the second engine. Printed by progd2.py. -/
set_option maxRecDepth 100000
set_option maxHeartbeats 8000000
namespace Go.Proofs.YtgcdbmcoendcdaaGreat
set_option linter.unusedVariables false
set_option linter.unusedSimpArgs false
open Go.RowKit
theorem nodeI_bad {nodes : List MNode} {n : MNode} {nb : Bool} (h : n.at_ < 0 ∨ (0 ≤ arI n.kind ∧ (n.kids.length : Int) ≠ arI n.kind) ∨ (n.kind ≠ 13 ∧ 0 < (n.pats.length : Int)) ∨ (n.kind ≠ 1 ∧ n.kind ≠ 3 ∧ n.n ≠ 0)) : nodeI nodes n nb = false := by
  unfold nodeI
  rcases h with h | ⟨h1, h2⟩ | ⟨h1, h2⟩ | ⟨h1, h2, h3⟩
  · rw [decide_eq_false (by omega : ¬ 0 ≤ n.at_)]; simp
  · rw [decide_eq_false (by omega : ¬ arI n.kind < 0), decide_eq_false h2]; simp
  · rw [decide_eq_false h1, decide_eq_false (by omega : ¬ n.pats.length = 0)]; simp
  · rw [decide_eq_false h1, decide_eq_false h2, decide_eq_false h3]; simp
theorem nodeI_ok {nodes : List MNode} {n : MNode} {nb : Bool} (h1 : 0 ≤ n.at_) (h2 : arI n.kind < 0 ∨ (n.kids.length : Int) = arI n.kind) (h3 : n.kind = 13 ∨ (n.pats.length : Int) = 0) (h4 : n.kind = 1 ∨ n.kind = 3 ∨ n.n = 0) : nodeI nodes n nb = kindI nodes n nb := by
  unfold nodeI
  rw [decide_eq_true h1]
  have e2 : (decide (arI n.kind < 0) || decide ((n.kids.length : Int) = arI n.kind)) = true := by simpa using h2
  have e3 : (decide (n.kind = 13) || decide (n.pats.length = 0)) = true := by
    rcases h3 with h | h
    · rw [decide_eq_true h]; rfl
    · rw [decide_eq_true (by omega : n.pats.length = 0)]; simp
  have e4 : (decide (n.kind = 1) || decide (n.kind = 3) || decide (n.n = 0)) = true := by
    rcases h4 with h | h | h <;> simp [h]
  rw [e2, e3, e4]; rfl
theorem nodeOk_a (p : MProgram) (kind : Int) (hkd : (kind = 1 ∧ arI kind = 0) ∨ (kind = 2 ∧ arI kind = 0) ∨ (kind = 3 ∧ arI kind = 0)) (at_ n : Int) (s : ByteArray) (kids : List Int) (pats : List MPat) (hpl : pats.length ≤ 1048576) (hsz : s.size ≤ maxLen) (f : FuncId) (caps : List D) (hm : PM.md f = []) (nb : Bool) (hf : FCon Tryz.prog f (.ag (MNode.mk kind at_ n s kids pats).enc :: caps) (fun r _ => r = .s (.bool nb))) :
    FCon Tryz.prog 97 [.ag p.enc, .ag (MNode.mk kind at_ n s kids pats).enc, .fn f caps] (fun r _ => r = .s (.bool (nodeI p.nodes ⟨kind, at_, n, s, kids, pats⟩ nb))) := by
  rcases hkd with ⟨rfl, ha⟩ | ⟨rfl, ha⟩ | ⟨rfl, ha⟩
  all_goals
    refine FCon.intro PM _ Tryz.func97 (by kernel_rfl) rfl _ Tryz.ntmps97 rfl [(16, 10, [], [], (lin [] [0, 1, 2, 3, 4, 5, 6, 7, 8, 9])), (18, 3, [], [], (lin [] [0, 1, 2])), (20, 17, [], [], (lin [] [0, 1, 2, 3, 4, 5, 6, 7, 8, 9, 10, 11, 12, 13, 14, 15, 16]))] (by decide +kernel) (by simp) (by simp) rfl (by first | rfl | simp only [go_sem]) ?_
    rw [MNode.enc_eq] at hf
    (have hWf := WFx.mk (ai @MNode.enc_eq <| ai @MProgram.enc_eq <| ai @ha <| ai @hm <| @stE_frz); repeat' (first | refine zS ?_ | exact zE | with_reducible apply And.intro | ((with_reducible apply q_CallG); refine zG (c_arity _) ?_) | ((with_reducible apply q_CallQ); refine CallQ_mk (c_arity _) ?_) | refine zK (hf) ?_ | refine zK (c_within n 0 4611686018427387903) ?_ | refine zK (c_primOps) ?_ | refine zK (c_prims s) ?_ | with_reducible exact zB0 | with_reducible refine zB fun hb => ?_ | exact zC | refine zT ?_ | fail))
    all_goals
      (try clear hf)
      first
        | exact fun h => ⟨h, by omega⟩
        | exact fun h => ⟨h, by omega, by omega⟩
        | exact fun h => ⟨h, h, by omega, by omega⟩
        | rw [nodeI_bad (by (try dsimp only [List.length_nil, List.length_cons]); rw [ha]; omega)]
        | (rw [nodeI_ok (by (try dsimp only); omega) (by (try dsimp only [List.length_nil, List.length_cons]); rw [ha]; omega) (by (try dsimp only); omega) (by (try dsimp only); omega)]
           (try simp only [kindI, Int.reduceEq, or_false, false_or, or_true, true_or, or_self, if_true, if_false, ↓reduceIte, Int.reduceLE, decide_true, Bool.true_and])
           (try (refine sB ?_; first | rfl | rfl | (rw [Bool.eq_iff_iff]; simp only [Bool.and_eq_true, decide_eq_true_eq, beq_iff_eq]; omega) | (simp; done) | (rw [Bool.eq_iff_iff]; simp; omega))))
theorem nodeOk_b (p : MProgram) (kind : Int) (hkd : (kind = 5 ∧ arI kind = 1) ∨ (kind = 7 ∧ arI kind = 2) ∨ (kind = 15 ∧ arI kind = 2)) (at_ n : Int) (s : ByteArray) (kids : List Int) (pats : List MPat) (hpl : pats.length ≤ 1048576) (hsz : s.size ≤ maxLen) (f : FuncId) (caps : List D) (hm : PM.md f = []) (nb : Bool) (hf : FCon Tryz.prog f (.ag (MNode.mk kind at_ n s kids pats).enc :: caps) (fun r _ => r = .s (.bool nb))) :
    FCon Tryz.prog 97 [.ag p.enc, .ag (MNode.mk kind at_ n s kids pats).enc, .fn f caps] (fun r _ => r = .s (.bool (nodeI p.nodes ⟨kind, at_, n, s, kids, pats⟩ nb))) := by
  rcases hkd with ⟨rfl, ha⟩ | ⟨rfl, ha⟩ | ⟨rfl, ha⟩
  all_goals
    refine FCon.intro PM _ Tryz.func97 (by kernel_rfl) rfl _ Tryz.ntmps97 rfl [(16, 10, [], [], (lin [] [0, 1, 2, 3, 4, 5, 6, 7, 8, 9])), (18, 3, [], [], (lin [] [0, 1, 2])), (20, 17, [], [], (lin [] [0, 1, 2, 3, 4, 5, 6, 7, 8, 9, 10, 11, 12, 13, 14, 15, 16]))] (by decide +kernel) (by simp) (by simp) rfl (by first | rfl | simp only [go_sem]) ?_
    rw [MNode.enc_eq] at hf
    (have hWf := WFx.mk (ai @MNode.enc_eq <| ai @MProgram.enc_eq <| ai @ha <| ai @hm <| @stE_frz); repeat' (first | refine zS ?_ | exact zE | with_reducible apply And.intro | ((with_reducible apply q_CallG); refine zG (c_arity _) ?_) | ((with_reducible apply q_CallQ); refine CallQ_mk (c_arity _) ?_) | refine zK (hf) ?_ | refine zK (c_within n 0 4611686018427387903) ?_ | refine zK (c_primOps) ?_ | refine zK (c_prims s) ?_ | with_reducible exact zB0 | with_reducible refine zB fun hb => ?_ | exact zC | refine zT ?_ | fail))
    all_goals
      (try clear hf)
      first
        | exact fun h => ⟨h, by omega⟩
        | exact fun h => ⟨h, by omega, by omega⟩
        | exact fun h => ⟨h, h, by omega, by omega⟩
        | rw [nodeI_bad (by (try dsimp only [List.length_nil, List.length_cons]); rw [ha]; omega)]
        | (rw [nodeI_ok (by (try dsimp only); omega) (by (try dsimp only [List.length_nil, List.length_cons]); rw [ha]; omega) (by (try dsimp only); omega) (by (try dsimp only); omega)]
           (try simp only [kindI, Int.reduceEq, or_false, false_or, or_true, true_or, or_self, if_true, if_false, ↓reduceIte, Int.reduceLE, decide_true, Bool.true_and])
           (try (refine sB ?_; first | rfl | rfl | (rw [Bool.eq_iff_iff]; simp only [Bool.and_eq_true, decide_eq_true_eq, beq_iff_eq]; omega) | (simp; done) | (rw [Bool.eq_iff_iff]; simp; omega))))
theorem nodeOk_c (p : MProgram) (kind : Int) (hkd : (kind = 6 ∧ arI kind = 2) ∨ (kind = 9 ∧ arI kind = 3) ∨ (kind = 10 ∧ arI kind = 2)) (at_ n : Int) (s : ByteArray) (kids : List Int) (pats : List MPat) (hpl : pats.length ≤ 1048576) (hsz : s.size ≤ maxLen) (f : FuncId) (caps : List D) (hm : PM.md f = []) (nb : Bool) (hf : FCon Tryz.prog f (.ag (MNode.mk kind at_ n s kids pats).enc :: caps) (fun r _ => r = .s (.bool nb))) :
    FCon Tryz.prog 97 [.ag p.enc, .ag (MNode.mk kind at_ n s kids pats).enc, .fn f caps] (fun r _ => r = .s (.bool (nodeI p.nodes ⟨kind, at_, n, s, kids, pats⟩ nb))) := by
  rcases hkd with ⟨rfl, ha⟩ | ⟨rfl, ha⟩ | ⟨rfl, ha⟩
  all_goals
    refine FCon.intro PM _ Tryz.func97 (by kernel_rfl) rfl _ Tryz.ntmps97 rfl [(16, 10, [], [], (lin [] [0, 1, 2, 3, 4, 5, 6, 7, 8, 9])), (18, 3, [], [], (lin [] [0, 1, 2])), (20, 17, [], [], (lin [] [0, 1, 2, 3, 4, 5, 6, 7, 8, 9, 10, 11, 12, 13, 14, 15, 16]))] (by decide +kernel) (by simp) (by simp) rfl (by first | rfl | simp only [go_sem]) ?_
    rw [MNode.enc_eq] at hf
    (have hWf := WFx.mk (ai @MNode.enc_eq <| ai @MProgram.enc_eq <| ai @ha <| ai @hm <| @stE_frz); repeat' (first | refine zS ?_ | exact zE | with_reducible apply And.intro | ((with_reducible apply q_CallG); refine zG (c_arity _) ?_) | ((with_reducible apply q_CallQ); refine CallQ_mk (c_arity _) ?_) | refine zK (hf) ?_ | refine zK (c_within n 0 4611686018427387903) ?_ | refine zK (c_primOps) ?_ | refine zK (c_prims s) ?_ | with_reducible exact zB0 | with_reducible refine zB fun hb => ?_ | exact zC | refine zT ?_ | fail))
    all_goals
      (try clear hf)
      first
        | exact fun h => ⟨h, by omega⟩
        | exact fun h => ⟨h, by omega, by omega⟩
        | exact fun h => ⟨h, h, by omega, by omega⟩
        | rw [nodeI_bad (by (try dsimp only [List.length_nil, List.length_cons]); rw [ha]; omega)]
        | (rw [nodeI_ok (by (try dsimp only); omega) (by (try dsimp only [List.length_nil, List.length_cons]); rw [ha]; omega) (by (try dsimp only); omega) (by (try dsimp only); omega)]
           (try simp only [kindI, Int.reduceEq, or_false, false_or, or_true, true_or, or_self, if_true, if_false, ↓reduceIte, Int.reduceLE, decide_true, Bool.true_and])
           (try (refine sB ?_; first | rfl | rfl | (rw [Bool.eq_iff_iff]; simp only [Bool.and_eq_true, decide_eq_true_eq, beq_iff_eq]; omega) | (simp; done) | (rw [Bool.eq_iff_iff]; simp; omega))))
theorem nodeOk_d (p : MProgram) (kind : Int) (hkd : (kind = 11 ∧ arI kind = 2) ∨ (kind = 12 ∧ arI kind = 0) ∨ (kind = 13 ∧ arI kind = -1)) (at_ n : Int) (s : ByteArray) (kids : List Int) (pats : List MPat) (hpl : pats.length ≤ 1048576) (hsz : s.size ≤ maxLen) (f : FuncId) (caps : List D) (hm : PM.md f = []) (nb : Bool) (hf : FCon Tryz.prog f (.ag (MNode.mk kind at_ n s kids pats).enc :: caps) (fun r _ => r = .s (.bool nb))) :
    FCon Tryz.prog 97 [.ag p.enc, .ag (MNode.mk kind at_ n s kids pats).enc, .fn f caps] (fun r _ => r = .s (.bool (nodeI p.nodes ⟨kind, at_, n, s, kids, pats⟩ nb))) := by
  rcases hkd with ⟨rfl, ha⟩ | ⟨rfl, ha⟩ | ⟨rfl, ha⟩
  all_goals
    refine FCon.intro PM _ Tryz.func97 (by kernel_rfl) rfl _ Tryz.ntmps97 rfl [(16, 10, [], [], (lin [] [0, 1, 2, 3, 4, 5, 6, 7, 8, 9])), (18, 3, [], [], (lin [] [0, 1, 2])), (20, 17, [], [], (lin [] [0, 1, 2, 3, 4, 5, 6, 7, 8, 9, 10, 11, 12, 13, 14, 15, 16]))] (by decide +kernel) (by simp) (by simp) rfl (by first | rfl | simp only [go_sem]) ?_
    rw [MNode.enc_eq] at hf
    (have hWf := WFx.mk (ai @MNode.enc_eq <| ai @MProgram.enc_eq <| ai @ha <| ai @hm <| @stE_frz); repeat' (first | refine zS ?_ | exact zE | with_reducible apply And.intro | ((with_reducible apply q_CallG); refine zG (c_arity _) ?_) | ((with_reducible apply q_CallQ); refine CallQ_mk (c_arity _) ?_) | refine zK (hf) ?_ | refine zK (c_within n 0 4611686018427387903) ?_ | refine zK (c_primOps) ?_ | refine zK (c_prims s) ?_ | with_reducible exact zB0 | with_reducible refine zB fun hb => ?_ | exact zC | refine zT ?_ | fail))
    all_goals
      (try clear hf)
      first
        | exact fun h => ⟨h, by omega⟩
        | exact fun h => ⟨h, by omega, by omega⟩
        | exact fun h => ⟨h, h, by omega, by omega⟩
        | rw [nodeI_bad (by (try dsimp only [List.length_nil, List.length_cons]); rw [ha]; omega)]
        | (rw [nodeI_ok (by (try dsimp only); omega) (by (try dsimp only [List.length_nil, List.length_cons]); rw [ha]; omega) (by (try dsimp only); omega) (by (try dsimp only); omega)]
           (try simp only [kindI, Int.reduceEq, or_false, false_or, or_true, true_or, or_self, if_true, if_false, ↓reduceIte, Int.reduceLE, decide_true, Bool.true_and])
           (try (refine sB ?_; first | rfl | (rw [show decide ((pats.length : Int) ≥ 1) = decide (1 ≤ pats.length) from (by rw [decide_eq_decide]; omega), show ((kids.length : Int) == (pats.length : Int) + 1) = decide (kids.length = pats.length + 1) from (by rw [Bool.eq_iff_iff]; simp only [beq_iff_eq, decide_eq_true_eq]; omega)]) | (rw [Bool.eq_iff_iff]; simp only [Bool.and_eq_true, decide_eq_true_eq, beq_iff_eq]; omega) | (simp; done) | (rw [Bool.eq_iff_iff]; simp; omega))))
theorem nodeOk_e (p : MProgram) (kind : Int) (hkd : (kind = 14 ∧ arI kind = 1) ∨ (kind = 16 ∧ arI kind = 1) ∨ (kind = 17 ∧ arI kind = 1)) (at_ n : Int) (s : ByteArray) (kids : List Int) (pats : List MPat) (hpl : pats.length ≤ 1048576) (hsz : s.size ≤ maxLen) (f : FuncId) (caps : List D) (hm : PM.md f = []) (nb : Bool) (hf : FCon Tryz.prog f (.ag (MNode.mk kind at_ n s kids pats).enc :: caps) (fun r _ => r = .s (.bool nb))) :
    FCon Tryz.prog 97 [.ag p.enc, .ag (MNode.mk kind at_ n s kids pats).enc, .fn f caps] (fun r _ => r = .s (.bool (nodeI p.nodes ⟨kind, at_, n, s, kids, pats⟩ nb))) := by
  rcases hkd with ⟨rfl, ha⟩ | ⟨rfl, ha⟩ | ⟨rfl, ha⟩
  all_goals
    refine FCon.intro PM _ Tryz.func97 (by kernel_rfl) rfl _ Tryz.ntmps97 rfl [(16, 10, [], [], (lin [] [0, 1, 2, 3, 4, 5, 6, 7, 8, 9])), (18, 3, [], [], (lin [] [0, 1, 2])), (20, 17, [], [], (lin [] [0, 1, 2, 3, 4, 5, 6, 7, 8, 9, 10, 11, 12, 13, 14, 15, 16]))] (by decide +kernel) (by simp) (by simp) rfl (by first | rfl | simp only [go_sem]) ?_
    rw [MNode.enc_eq] at hf
    (have hWf := WFx.mk (ai @MNode.enc_eq <| ai @MProgram.enc_eq <| ai @ha <| ai @hm <| @stE_frz); repeat' (first | refine zS ?_ | exact zE | with_reducible apply And.intro | ((with_reducible apply q_CallG); refine zG (c_arity _) ?_) | ((with_reducible apply q_CallQ); refine CallQ_mk (c_arity _) ?_) | refine zK (hf) ?_ | refine zK (c_within n 0 4611686018427387903) ?_ | refine zK (c_primOps) ?_ | refine zK (c_prims s) ?_ | with_reducible exact zB0 | with_reducible refine zB fun hb => ?_ | exact zC | refine zT ?_ | fail))
    all_goals
      (try clear hf)
      first
        | exact fun h => ⟨h, by omega⟩
        | exact fun h => ⟨h, by omega, by omega⟩
        | exact fun h => ⟨h, h, by omega, by omega⟩
        | rw [nodeI_bad (by (try dsimp only [List.length_nil, List.length_cons]); rw [ha]; omega)]
        | (rw [nodeI_ok (by (try dsimp only); omega) (by (try dsimp only [List.length_nil, List.length_cons]); rw [ha]; omega) (by (try dsimp only); omega) (by (try dsimp only); omega)]
           (try simp only [kindI, Int.reduceEq, or_false, false_or, or_true, true_or, or_self, if_true, if_false, ↓reduceIte, Int.reduceLE, decide_true, Bool.true_and])
           (try (refine sB ?_; first | rfl | rfl | (rw [Bool.eq_iff_iff]; simp only [Bool.and_eq_true, decide_eq_true_eq, beq_iff_eq]; omega) | (simp; done) | (rw [Bool.eq_iff_iff]; simp; omega))))
theorem nodeOk_f (p : MProgram) (kind : Int) (hkd : (kind = 18 ∧ arI kind = 2) ∨ (kind = 19 ∧ arI kind = 2)) (at_ n : Int) (s : ByteArray) (kids : List Int) (pats : List MPat) (hpl : pats.length ≤ 1048576) (hsz : s.size ≤ maxLen) (f : FuncId) (caps : List D) (hm : PM.md f = []) (nb : Bool) (hf : FCon Tryz.prog f (.ag (MNode.mk kind at_ n s kids pats).enc :: caps) (fun r _ => r = .s (.bool nb))) :
    FCon Tryz.prog 97 [.ag p.enc, .ag (MNode.mk kind at_ n s kids pats).enc, .fn f caps] (fun r _ => r = .s (.bool (nodeI p.nodes ⟨kind, at_, n, s, kids, pats⟩ nb))) := by
  rcases hkd with ⟨rfl, ha⟩ | ⟨rfl, ha⟩
  all_goals
    refine FCon.intro PM _ Tryz.func97 (by kernel_rfl) rfl _ Tryz.ntmps97 rfl [(16, 10, [], [], (lin [] [0, 1, 2, 3, 4, 5, 6, 7, 8, 9])), (18, 3, [], [], (lin [] [0, 1, 2])), (20, 17, [], [], (lin [] [0, 1, 2, 3, 4, 5, 6, 7, 8, 9, 10, 11, 12, 13, 14, 15, 16]))] (by decide +kernel) (by simp) (by simp) rfl (by first | rfl | simp only [go_sem]) ?_
    rw [MNode.enc_eq] at hf
    (have hWf := WFx.mk (ai @MNode.enc_eq <| ai @MProgram.enc_eq <| ai @ha <| ai @hm <| @stE_frz); repeat' (first | refine zS ?_ | exact zE | with_reducible apply And.intro | ((with_reducible apply q_CallG); refine zG (c_arity _) ?_) | ((with_reducible apply q_CallQ); refine CallQ_mk (c_arity _) ?_) | refine zK (hf) ?_ | refine zK (c_within n 0 4611686018427387903) ?_ | refine zK (c_primOps) ?_ | refine zK (c_prims s) ?_ | with_reducible exact zB0 | with_reducible refine zB fun hb => ?_ | exact zC | refine zT ?_ | fail))
    all_goals
      (try clear hf)
      first
        | exact fun h => ⟨h, by omega⟩
        | exact fun h => ⟨h, by omega, by omega⟩
        | exact fun h => ⟨h, h, by omega, by omega⟩
        | rw [nodeI_bad (by (try dsimp only [List.length_nil, List.length_cons]); rw [ha]; omega)]
        | (rw [nodeI_ok (by (try dsimp only); omega) (by (try dsimp only [List.length_nil, List.length_cons]); rw [ha]; omega) (by (try dsimp only); omega) (by (try dsimp only); omega)]
           (try simp only [kindI, Int.reduceEq, or_false, false_or, or_true, true_or, or_self, if_true, if_false, ↓reduceIte, Int.reduceLE, decide_true, Bool.true_and])
           (try (refine sB ?_; first | rfl | rfl | (rw [Bool.eq_iff_iff]; simp only [Bool.and_eq_true, decide_eq_true_eq, beq_iff_eq]; omega) | (simp; done) | (rw [Bool.eq_iff_iff]; simp; omega))))
theorem nodeOk_4N (p : MProgram) (at_ n : Int) (s : ByteArray) (pats : List MPat) (hpl : pats.length ≤ 1048576) (hsz : s.size ≤ maxLen) (f : FuncId) (caps : List D) (hm : PM.md f = []) (nb : Bool) (hf : FCon Tryz.prog f (.ag (MNode.mk 4 at_ n s [] pats).enc :: caps) (fun r _ => r = .s (.bool nb))) :
    FCon Tryz.prog 97 [.ag p.enc, .ag (MNode.mk 4 at_ n s [] pats).enc, .fn f caps] (fun r _ => r = .s (.bool (nodeI p.nodes ⟨4, at_, n, s, [], pats⟩ nb))) := by
  have ha : arI 4 = -1 := by decide
  rw [MNode.enc_eq] at hf
  refine FCon.intro PM _ Tryz.func97 (by kernel_rfl) rfl _ Tryz.ntmps97 rfl [(16, 10, [], [], (lin [] [0, 1, 2, 3, 4, 5, 6, 7, 8, 9])), (18, 3, [], [], (lin [] [0, 1, 2])), (20, 17, [], [], (lin [] [0, 1, 2, 3, 4, 5, 6, 7, 8, 9, 10, 11, 12, 13, 14, 15, 16]))] (by decide +kernel) (by simp) (by simp) rfl (by first | rfl | simp only [go_sem]) ?_
  (have hWf := WFx.mk (ai @MNode.enc_eq <| ai @MProgram.enc_eq <| ai @ha <| ai @hm <| @iE_eq); repeat' (first | refine zS ?_ | exact zE | with_reducible apply And.intro | ((with_reducible apply q_CallG); refine zG (c_arity _) ?_) | ((with_reducible apply q_CallQ); refine CallQ_mk (c_arity _) ?_) | ((with_reducible apply q_CallG); refine zG (c_conShape s hsz 0 _) ?_) | ((with_reducible apply q_CallQ); refine CallQ_mk (c_conShape s hsz 0 _) ?_) | with_reducible exact zB0 | with_reducible refine zB fun hb => ?_ | exact zC | refine zT ?_ | fail))
  all_goals
    (try clear hf)
    first
      | exact fun h => ⟨h, by omega⟩
      | exact fun h => ⟨h, by omega, by omega⟩
      | exact fun h => ⟨h, h, by omega, by omega⟩
      | rw [nodeI_bad (by (try dsimp only [List.length_nil, List.length_cons]); rw [ha]; omega)]
      | (rw [nodeI_ok (by (try dsimp only); omega) (by (try dsimp only [List.length_nil, List.length_cons]); rw [ha]; omega) (by (try dsimp only); omega) (by (try dsimp only); omega)]
         (try simp only [kindI, Int.reduceEq, or_false, false_or, or_true, true_or, or_self, if_true, if_false, ↓reduceIte, Int.reduceLE, decide_true, Bool.true_and])
         (try (refine sB ?_; first | rfl | (congr 1; first | rfl | (congr 1; rw [Bool.eq_iff_iff]; simp only [List.length_cons, List.length_nil, decide_eq_true_eq, beq_iff_eq]; omega) | (simp [kidK]; done)) | (rw [Bool.eq_iff_iff]; simp only [Bool.and_eq_true, decide_eq_true_eq, beq_iff_eq]; omega) | (simp; done) | (rw [Bool.eq_iff_iff]; simp; omega))))
theorem nodeOk_4C (p : MProgram) (at_ n : Int) (s : ByteArray) (q : Nat) (l : List Int) (hq : q < p.nodes.length) (hll : l.length ≤ 1048576) (pats : List MPat) (hpl : pats.length ≤ 1048576) (hsz : s.size ≤ maxLen) (f : FuncId) (caps : List D) (hm : PM.md f = []) (nb : Bool) (hf : FCon Tryz.prog f (.ag (MNode.mk 4 at_ n s ((q : Int) :: l) pats).enc :: caps) (fun r _ => r = .s (.bool nb))) :
    FCon Tryz.prog 97 [.ag p.enc, .ag (MNode.mk 4 at_ n s ((q : Int) :: l) pats).enc, .fn f caps] (fun r _ => r = .s (.bool (nodeI p.nodes ⟨4, at_, n, s, ((q : Int) :: l), pats⟩ nb))) := by
  have ha : arI 4 = -1 := by decide
  rw [MNode.enc_eq] at hf
  have hn := getD_map MNode.enc p.nodes q hq
  have hne := MNode.enc_eq p.nodes[q]
  have hkk := fun kd => kidK_at (nodes := p.nodes) (l := (q : Int) :: l) (by simp) hq rfl kd
  refine FCon.intro PM _ Tryz.func97 (by kernel_rfl) rfl _ Tryz.ntmps97 rfl [(16, 10, [], [], (lin [] [0, 1, 2, 3, 4, 5, 6, 7, 8, 9])), (18, 3, [], [], (lin [] [0, 1, 2])), (20, 17, [], [], (lin [] [0, 1, 2, 3, 4, 5, 6, 7, 8, 9, 10, 11, 12, 13, 14, 15, 16]))] (by decide +kernel) (by simp) (by simp) rfl (by first | rfl | simp only [go_sem]) ?_
  (have hWf := WFx.mk (ai @MNode.enc_eq <| ai @MProgram.enc_eq <| ai @ha <| ai @hm <| ai @iE_eq <| ai @hn <| @hne); repeat' (first | refine zS ?_ | exact zE | with_reducible apply And.intro | ((with_reducible apply q_CallG); refine zG (c_arity _) ?_) | ((with_reducible apply q_CallQ); refine CallQ_mk (c_arity _) ?_) | ((with_reducible apply q_CallG); refine zG (c_conShape s hsz (l.length + 1) _) ?_) | ((with_reducible apply q_CallQ); refine CallQ_mk (c_conShape s hsz (l.length + 1) _) ?_) | with_reducible exact zB0 | with_reducible refine zB fun hb => ?_ | exact zC | refine zT ?_ | fail))
  all_goals
    (try clear hf)
    first
      | exact fun h => ⟨h, by omega⟩
      | exact fun h => ⟨h, by omega, by omega⟩
      | exact fun h => ⟨h, h, by omega, by omega⟩
      | rw [nodeI_bad (by (try dsimp only [List.length_nil, List.length_cons]); rw [ha]; omega)]
      | (rw [nodeI_ok (by (try dsimp only); omega) (by (try dsimp only [List.length_nil, List.length_cons]); rw [ha]; omega) (by (try dsimp only); omega) (by (try dsimp only); omega)]
         (try simp only [kindI, Int.reduceEq, or_false, false_or, or_true, true_or, or_self, if_true, if_false, ↓reduceIte, Int.reduceLE, decide_true, Bool.true_and, hkk])
         (try (refine sB ?_; first | rfl | (congr 1; first | rfl | (congr 1; rw [Bool.eq_iff_iff]; simp only [List.length_cons, List.length_nil, decide_eq_true_eq, beq_iff_eq]; omega) | (simp [kidK]; done)) | (rw [Bool.eq_iff_iff]; simp only [Bool.and_eq_true, decide_eq_true_eq, beq_iff_eq]; omega) | (simp; done) | (rw [Bool.eq_iff_iff]; simp; omega))))
theorem nodeOk_8N (p : MProgram) (at_ n : Int) (s : ByteArray) (pats : List MPat) (hpl : pats.length ≤ 1048576) (hsz : s.size ≤ maxLen) (f : FuncId) (caps : List D) (hm : PM.md f = []) (nb : Bool) (hf : FCon Tryz.prog f (.ag (MNode.mk 8 at_ n s [] pats).enc :: caps) (fun r _ => r = .s (.bool nb))) :
    FCon Tryz.prog 97 [.ag p.enc, .ag (MNode.mk 8 at_ n s [] pats).enc, .fn f caps] (fun r _ => r = .s (.bool (nodeI p.nodes ⟨8, at_, n, s, [], pats⟩ nb))) := by
  have ha : arI 8 = 2 := by decide
  rw [MNode.enc_eq] at hf
  refine FCon.intro PM _ Tryz.func97 (by kernel_rfl) rfl _ Tryz.ntmps97 rfl [(16, 10, [], [], (lin [] [0, 1, 2, 3, 4, 5, 6, 7, 8, 9])), (18, 3, [], [], (lin [] [0, 1, 2])), (20, 17, [], [], (lin [] [0, 1, 2, 3, 4, 5, 6, 7, 8, 9, 10, 11, 12, 13, 14, 15, 16]))] (by decide +kernel) (by simp) (by simp) rfl (by first | rfl | simp only [go_sem]) ?_
  (have hWf := WFx.mk (ai @MNode.enc_eq <| ai @MProgram.enc_eq <| ai @ha <| ai @hm <| @iE_eq); repeat' (first | refine zS ?_ | exact zE | with_reducible apply And.intro | ((with_reducible apply q_CallG); refine zG (c_arity _) ?_) | ((with_reducible apply q_CallQ); refine CallQ_mk (c_arity _) ?_) | refine zK (hf) ?_ | with_reducible exact zB0 | with_reducible refine zB fun hb => ?_ | exact zC | refine zT ?_ | fail))
  all_goals
    (try clear hf)
    first
      | exact fun h => ⟨h, by omega⟩
      | exact fun h => ⟨h, by omega, by omega⟩
      | exact fun h => ⟨h, h, by omega, by omega⟩
      | rw [nodeI_bad (by (try dsimp only [List.length_nil, List.length_cons]); rw [ha]; omega)]
      | (rw [nodeI_ok (by (try dsimp only); omega) (by (try dsimp only [List.length_nil, List.length_cons]); rw [ha]; omega) (by (try dsimp only); omega) (by (try dsimp only); omega)]
         (try simp only [kindI, Int.reduceEq, or_false, false_or, or_true, true_or, or_self, if_true, if_false, ↓reduceIte, Int.reduceLE, decide_true, Bool.true_and])
         (try (refine sB ?_; first | rfl | (congr 1; first | rfl | (congr 1; rw [Bool.eq_iff_iff]; simp only [List.length_cons, List.length_nil, decide_eq_true_eq, beq_iff_eq]; omega) | (simp [kidK]; done)) | (rw [Bool.eq_iff_iff]; simp only [Bool.and_eq_true, decide_eq_true_eq, beq_iff_eq]; omega) | (simp; done) | (rw [Bool.eq_iff_iff]; simp; omega))))
theorem nodeOk_8C (p : MProgram) (at_ n : Int) (s : ByteArray) (q : Nat) (l : List Int) (hq : q < p.nodes.length) (hll : l.length ≤ 1048576) (pats : List MPat) (hpl : pats.length ≤ 1048576) (hsz : s.size ≤ maxLen) (f : FuncId) (caps : List D) (hm : PM.md f = []) (nb : Bool) (hf : FCon Tryz.prog f (.ag (MNode.mk 8 at_ n s ((q : Int) :: l) pats).enc :: caps) (fun r _ => r = .s (.bool nb))) :
    FCon Tryz.prog 97 [.ag p.enc, .ag (MNode.mk 8 at_ n s ((q : Int) :: l) pats).enc, .fn f caps] (fun r _ => r = .s (.bool (nodeI p.nodes ⟨8, at_, n, s, ((q : Int) :: l), pats⟩ nb))) := by
  have ha : arI 8 = 2 := by decide
  rw [MNode.enc_eq] at hf
  have hn := getD_map MNode.enc p.nodes q hq
  have hne := MNode.enc_eq p.nodes[q]
  have hkk := fun kd => kidK_at (nodes := p.nodes) (l := (q : Int) :: l) (by simp) hq rfl kd
  refine FCon.intro PM _ Tryz.func97 (by kernel_rfl) rfl _ Tryz.ntmps97 rfl [(16, 10, [], [], (lin [] [0, 1, 2, 3, 4, 5, 6, 7, 8, 9])), (18, 3, [], [], (lin [] [0, 1, 2])), (20, 17, [], [], (lin [] [0, 1, 2, 3, 4, 5, 6, 7, 8, 9, 10, 11, 12, 13, 14, 15, 16]))] (by decide +kernel) (by simp) (by simp) rfl (by first | rfl | simp only [go_sem]) ?_
  (have hWf := WFx.mk (ai @MNode.enc_eq <| ai @MProgram.enc_eq <| ai @ha <| ai @hm <| ai @iE_eq <| ai @hn <| @hne); repeat' (first | refine zS ?_ | exact zE | with_reducible apply And.intro | ((with_reducible apply q_CallG); refine zG (c_arity _) ?_) | ((with_reducible apply q_CallQ); refine CallQ_mk (c_arity _) ?_) | refine zK (hf) ?_ | with_reducible exact zB0 | with_reducible refine zB fun hb => ?_ | exact zC | refine zT ?_ | fail))
  all_goals
    (try clear hf)
    first
      | exact fun h => ⟨h, by omega⟩
      | exact fun h => ⟨h, by omega, by omega⟩
      | exact fun h => ⟨h, h, by omega, by omega⟩
      | rw [nodeI_bad (by (try dsimp only [List.length_nil, List.length_cons]); rw [ha]; omega)]
      | (rw [nodeI_ok (by (try dsimp only); omega) (by (try dsimp only [List.length_nil, List.length_cons]); rw [ha]; omega) (by (try dsimp only); omega) (by (try dsimp only); omega)]
         (try simp only [kindI, Int.reduceEq, or_false, false_or, or_true, true_or, or_self, if_true, if_false, ↓reduceIte, Int.reduceLE, decide_true, Bool.true_and, hkk])
         (try (refine sB ?_; first | rfl | (congr 1; first | rfl | (congr 1; rw [Bool.eq_iff_iff]; simp only [List.length_cons, List.length_nil, decide_eq_true_eq, beq_iff_eq]; omega) | (simp [kidK]; done)) | (rw [Bool.eq_iff_iff]; simp only [Bool.and_eq_true, decide_eq_true_eq, beq_iff_eq]; omega) | (simp; done) | (rw [Bool.eq_iff_iff]; simp; omega))))
theorem nodeOk_X (p : MProgram) (kind : Int) (hkd : kind < 1 ∨ 19 < kind) (at_ n : Int) (s : ByteArray) (kids : List Int) (pats : List MPat) (hpl : pats.length ≤ 1048576) (hsz : s.size ≤ maxLen) (f : FuncId) (caps : List D) (hm : PM.md f = []) (nb : Bool) (hf : FCon Tryz.prog f (.ag (MNode.mk kind at_ n s kids pats).enc :: caps) (fun r _ => r = .s (.bool nb))) :
    FCon Tryz.prog 97 [.ag p.enc, .ag (MNode.mk kind at_ n s kids pats).enc, .fn f caps] (fun r _ => r = .s (.bool (nodeI p.nodes ⟨kind, at_, n, s, kids, pats⟩ nb))) := by
  have ha := arI_out hkd
  have e1 : (kind == 1) = false := by simp only [beq_eq_false_iff_ne, ne_eq]; omega
  have e2 : (kind == 2) = false := by simp only [beq_eq_false_iff_ne, ne_eq]; omega
  have e3 : (kind == 3) = false := by simp only [beq_eq_false_iff_ne, ne_eq]; omega
  have e4 : (kind == 4) = false := by simp only [beq_eq_false_iff_ne, ne_eq]; omega
  have e5 : (kind == 5) = false := by simp only [beq_eq_false_iff_ne, ne_eq]; omega
  have e6 : (kind == 6) = false := by simp only [beq_eq_false_iff_ne, ne_eq]; omega
  have e7 : (kind == 7) = false := by simp only [beq_eq_false_iff_ne, ne_eq]; omega
  have e8 : (kind == 8) = false := by simp only [beq_eq_false_iff_ne, ne_eq]; omega
  have e9 : (kind == 9) = false := by simp only [beq_eq_false_iff_ne, ne_eq]; omega
  have e10 : (kind == 10) = false := by simp only [beq_eq_false_iff_ne, ne_eq]; omega
  have e11 : (kind == 11) = false := by simp only [beq_eq_false_iff_ne, ne_eq]; omega
  have e12 : (kind == 12) = false := by simp only [beq_eq_false_iff_ne, ne_eq]; omega
  have e13 : (kind == 13) = false := by simp only [beq_eq_false_iff_ne, ne_eq]; omega
  have e14 : (kind == 14) = false := by simp only [beq_eq_false_iff_ne, ne_eq]; omega
  have e15 : (kind == 15) = false := by simp only [beq_eq_false_iff_ne, ne_eq]; omega
  have e16 : (kind == 16) = false := by simp only [beq_eq_false_iff_ne, ne_eq]; omega
  have e17 : (kind == 17) = false := by simp only [beq_eq_false_iff_ne, ne_eq]; omega
  have e18 : (kind == 18) = false := by simp only [beq_eq_false_iff_ne, ne_eq]; omega
  have e19 : (kind == 19) = false := by simp only [beq_eq_false_iff_ne, ne_eq]; omega
  have n1 : (kind != 1) = true := by simp only [bne_iff_ne, ne_eq]; omega
  have n3 : (kind != 3) = true := by simp only [bne_iff_ne, ne_eq]; omega
  have n13 : (kind != 13) = true := by simp only [bne_iff_ne, ne_eq]; omega
  have m1 : (kind = 1) = False := by rw [eq_iff_iff, iff_false]; omega
  have m2 : (kind = 2) = False := by rw [eq_iff_iff, iff_false]; omega
  have m3 : (kind = 3) = False := by rw [eq_iff_iff, iff_false]; omega
  have m4 : (kind = 4) = False := by rw [eq_iff_iff, iff_false]; omega
  have m5 : (kind = 5) = False := by rw [eq_iff_iff, iff_false]; omega
  have m6 : (kind = 6) = False := by rw [eq_iff_iff, iff_false]; omega
  have m7 : (kind = 7) = False := by rw [eq_iff_iff, iff_false]; omega
  have m8 : (kind = 8) = False := by rw [eq_iff_iff, iff_false]; omega
  have m9 : (kind = 9) = False := by rw [eq_iff_iff, iff_false]; omega
  have m10 : (kind = 10) = False := by rw [eq_iff_iff, iff_false]; omega
  have m11 : (kind = 11) = False := by rw [eq_iff_iff, iff_false]; omega
  have m12 : (kind = 12) = False := by rw [eq_iff_iff, iff_false]; omega
  have m13 : (kind = 13) = False := by rw [eq_iff_iff, iff_false]; omega
  have m14 : (kind = 14) = False := by rw [eq_iff_iff, iff_false]; omega
  have m15 : (kind = 15) = False := by rw [eq_iff_iff, iff_false]; omega
  have m16 : (kind = 16) = False := by rw [eq_iff_iff, iff_false]; omega
  have m17 : (kind = 17) = False := by rw [eq_iff_iff, iff_false]; omega
  have m18 : (kind = 18) = False := by rw [eq_iff_iff, iff_false]; omega
  have m19 : (kind = 19) = False := by rw [eq_iff_iff, iff_false]; omega
  have g : nodeI p.nodes ⟨kind, at_, n, s, kids, pats⟩ nb = false := by
    have g : kindI p.nodes ⟨kind, at_, n, s, kids, pats⟩ nb = false := by
      unfold kindI
      simp only [m1, m2, m3, m4, m5, m6, m7, m8, m9, m10, m11, m12, m13, m14, m15, m16, m17, m18, m19, or_self, if_false]
      rcases hkd with q | q
      · rw [decide_eq_false (by omega : ¬ 1 ≤ kind)]; rfl
      · rw [decide_eq_false (by omega : ¬ kind ≤ 19)]; simp
    unfold nodeI
    rw [g]; simp
  rw [g]
  refine FCon.intro PM _ Tryz.func97 (by kernel_rfl) rfl _ Tryz.ntmps97 rfl [(16, 10, [], [], (lin [] [0, 1, 2, 3, 4, 5, 6, 7, 8, 9])), (18, 3, [], [], (lin [] [0, 1, 2])), (20, 17, [], [], (lin [] [0, 1, 2, 3, 4, 5, 6, 7, 8, 9, 10, 11, 12, 13, 14, 15, 16]))] (by decide +kernel) (by simp) (by simp) rfl (by first | rfl | simp only [go_sem]) ?_
  (have hWf := WFx.mk (ai @MNode.enc_eq <| ai @MProgram.enc_eq <| ai @ha <| ai @hm <| ai @e1 <| ai @e2 <| ai @e3 <| ai @e4 <| ai @e5 <| ai @e6 <| ai @e7 <| ai @e8 <| ai @e9 <| ai @e10 <| ai @e11 <| ai @e12 <| ai @e13 <| ai @e14 <| ai @e15 <| ai @e16 <| ai @e17 <| ai @e18 <| ai @e19 <| ai @n1 <| ai @n3 <| @n13); repeat' (first | refine zS ?_ | exact zE | with_reducible apply And.intro | ((with_reducible apply q_CallG); refine zG (c_arity _) ?_) | ((with_reducible apply q_CallQ); refine CallQ_mk (c_arity _) ?_) | with_reducible exact zB0 | with_reducible refine zB fun hb => ?_ | exact zC | refine zT ?_ | fail))
theorem c_nodeOk (p : MProgram) (x : MNode) (ho : x.ok) (hs : x.pats.length ≤ 1048576) (hkl : x.kids.length ≤ 1048576) (f : FuncId) (caps : List D) (hm : PM.md f = []) (nb : Bool) (hf : FCon Tryz.prog f (.ag x.enc :: caps) (fun r _ => r = .s (.bool nb))) (hk : ∀ h : 0 < x.kids.length, ∃ q : Nat, x.kids[0] = (q : Int) ∧ q < p.nodes.length) :
    FCon Tryz.prog 97 [.ag p.enc, .ag x.enc, .fn f caps] (fun r _ => r = .s (.bool (nodeI p.nodes x nb))) := by
  obtain ⟨kind, at_, n, s, kids, pats⟩ := x
  obtain ⟨o1, o2, o3, o4, o5, o6⟩ := ho
  have hsz : s.size ≤ maxLen := o4
  by_cases hkd : kind < 1 ∨ 19 < kind
  · exact nodeOk_X p kind hkd at_ n s kids pats hs hsz f caps hm nb hf
  rcases (show kind = 1 ∨ kind = 2 ∨ kind = 3 ∨ kind = 4 ∨ kind = 5 ∨ kind = 6 ∨ kind = 7 ∨ kind = 8 ∨ kind = 9 ∨ kind = 10 ∨ kind = 11 ∨ kind = 12 ∨ kind = 13 ∨ kind = 14 ∨ kind = 15 ∨ kind = 16 ∨ kind = 17 ∨ kind = 18 ∨ kind = 19 by omega) with rfl | rfl | rfl | rfl | rfl | rfl | rfl | rfl | rfl | rfl | rfl | rfl | rfl | rfl | rfl | rfl | rfl | rfl | rfl
  · exact nodeOk_a p 1 (.inl ⟨rfl, by decide⟩) at_ n s kids pats hs hsz f caps hm nb hf
  · exact nodeOk_a p 2 (.inr (.inl ⟨rfl, by decide⟩)) at_ n s kids pats hs hsz f caps hm nb hf
  · exact nodeOk_a p 3 (.inr (.inr (⟨rfl, by decide⟩))) at_ n s kids pats hs hsz f caps hm nb hf
  · cases kids with
    | nil => exact nodeOk_4N p at_ n s pats hs hsz f caps hm nb hf
    | cons z l =>
      obtain ⟨q, hz, hq⟩ := hk (by simp)
      have hz : z = (q : Int) := hz
      subst hz
      exact nodeOk_4C p at_ n s q l hq (by simp at hkl; omega) pats hs hsz f caps hm nb hf
  · exact nodeOk_b p 5 (.inl ⟨rfl, by decide⟩) at_ n s kids pats hs hsz f caps hm nb hf
  · exact nodeOk_c p 6 (.inl ⟨rfl, by decide⟩) at_ n s kids pats hs hsz f caps hm nb hf
  · exact nodeOk_b p 7 (.inr (.inl ⟨rfl, by decide⟩)) at_ n s kids pats hs hsz f caps hm nb hf
  · cases kids with
    | nil => exact nodeOk_8N p at_ n s pats hs hsz f caps hm nb hf
    | cons z l =>
      obtain ⟨q, hz, hq⟩ := hk (by simp)
      have hz : z = (q : Int) := hz
      subst hz
      exact nodeOk_8C p at_ n s q l hq (by simp at hkl; omega) pats hs hsz f caps hm nb hf
  · exact nodeOk_c p 9 (.inr (.inl ⟨rfl, by decide⟩)) at_ n s kids pats hs hsz f caps hm nb hf
  · exact nodeOk_c p 10 (.inr (.inr (⟨rfl, by decide⟩))) at_ n s kids pats hs hsz f caps hm nb hf
  · exact nodeOk_d p 11 (.inl ⟨rfl, by decide⟩) at_ n s kids pats hs hsz f caps hm nb hf
  · exact nodeOk_d p 12 (.inr (.inl ⟨rfl, by decide⟩)) at_ n s kids pats hs hsz f caps hm nb hf
  · exact nodeOk_d p 13 (.inr (.inr (⟨rfl, by decide⟩))) at_ n s kids pats hs hsz f caps hm nb hf
  · exact nodeOk_e p 14 (.inl ⟨rfl, by decide⟩) at_ n s kids pats hs hsz f caps hm nb hf
  · exact nodeOk_b p 15 (.inr (.inr (⟨rfl, by decide⟩))) at_ n s kids pats hs hsz f caps hm nb hf
  · exact nodeOk_e p 16 (.inr (.inl ⟨rfl, by decide⟩)) at_ n s kids pats hs hsz f caps hm nb hf
  · exact nodeOk_e p 17 (.inr (.inr (⟨rfl, by decide⟩))) at_ n s kids pats hs hsz f caps hm nb hf
  · exact nodeOk_f p 18 (.inl ⟨rfl, by decide⟩) at_ n s kids pats hs hsz f caps hm nb hf
  · exact nodeOk_f p 19 (.inr (⟨rfl, by decide⟩)) at_ n s kids pats hs hsz f caps hm nb hf
end Go.Proofs.YtgcdbmcoendcdaaGreat
