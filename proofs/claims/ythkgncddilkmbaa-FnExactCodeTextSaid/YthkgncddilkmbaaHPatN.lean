import Derived.Test.YthkgncddilkmbaaPatM
import Derived.Test.YthkgncddilkmbaaHNam
import Derived.Test.YthkgncddilkmbaaHOrd
/- A node of a pattern, both sides, over the second engine. -/
namespace Go.Proofs.Ythkgncddilkmbaa
set_option linter.unusedVariables false
set_option linter.unusedSimpArgs false
open Go.RowKit
theorem litTrue : (⟨#[116, 114, 117, 101]⟩ : ByteArray).toList = [116, 114, 117, 101] := by kernel_rfl
theorem litFalse : (⟨#[102, 97, 108, 115, 101]⟩ : ByteArray).toList = [102, 97, 108, 115, 101] := by kernel_rfl
theorem litNil : (⟨#[91, 93]⟩ : ByteArray).toList = [91, 93] := by kernel_rfl
theorem litCons : (⟨#[58, 58]⟩ : ByteArray).toList = [58, 58] := by kernel_rfl
set_option maxRecDepth 100000 in
set_option maxHeartbeats 1000000 in
theorem c_conShape (s : ByteArray) (hs : s.size ≤ maxLen) (k : Nat) (p : Bool) : FCon Try.prog 60 [.s (.string s), .s (.int .i64 k), .s (.bool p)] (fun r _ => r = .s (.bool (shapeM s k p))) := by
  refine FCon.intro PM _ Try.func60 (by kernel_rfl) rfl _ Try.ntmps60 rfl [] (by decide +kernel) (by simp) (by simp) rfl (by first | rfl | simp only [go_sem]) ?_
  (have hWf := WFx.mk (And.intro @litTrue <| And.intro @litFalse <| And.intro @litNil <| @litCons); repeat' (first | refine zS ?_ | exact zE | with_reducible apply And.intro | refine zK (c_implConOk s hs) ?_ | ((with_reducible intro hb0); revert hb0; with_reducible first | exact zB0 | refine zB fun hb => ?_ | fail) | ((with_reducible apply q_Meet); exact zM) | exact zC | refine zT ?_ | fail))
  all_goals exact sB (by grind [shapeM])
set_option maxRecDepth 100000 in
set_option maxHeartbeats 1000000 in
theorem c_l04ConOk (s : ByteArray) (hs : s.size ≤ maxLen) (k : Nat) (p : Bool) : FCon Try.prog 50 [.s (.string s), .s (.int .i64 k), .s (.bool p)] (fun r _ => r = .s (.bool (shapeM s k p))) := by
  refine FCon.intro PM _ Try.func50 (by kernel_rfl) rfl _ Try.ntmps50 rfl [] (by decide +kernel) (by simp) (by simp) rfl (by first | rfl | simp only [go_sem]) ?_
  (have hWf := WFx.mk (And.intro @litTrue <| And.intro @litFalse <| And.intro @litNil <| @litCons); repeat' (first | refine zS ?_ | exact zE | with_reducible apply And.intro | refine zK (c_specConOk s hs) ?_ | ((with_reducible intro hb0); revert hb0; with_reducible first | exact zB0 | refine zB fun hb => ?_ | fail) | ((with_reducible apply q_Meet); exact zM) | exact zC | refine zT ?_ | fail))
  all_goals exact sB (by grind [shapeM])
theorem pnode_out {p : Bool} {x : DPNode} (h : x.kind < 1 ∨ 6 < x.kind) : pnodeB p x = false := by
  unfold pnodeB
  rw [if_neg (by omega), if_neg (by omega), if_neg (by omega), if_neg (by omega), if_neg (by omega)]
set_option maxRecDepth 100000 in
set_option maxHeartbeats 4000000 in
theorem patN_4 (xs : List DPNode) (n : Int) (s : ByteArray) (kids : List Int) (hs : s.size ≤ maxLen) (hkl : kids.length ≤ 1048576) (hin : ∀ h1 : kids.length = 1, ∃ k : Nat, kids[0]'(by omega) = (k : Int) ∧ k < xs.length) : FCon Try.prog 57 [.ag [.sl 4 (xs.map DPNode.enc)], .ag (DPNode.mk 4 n s kids).enc] (fun r _ => r = .s (.bool (pnodeM xs ⟨4, n, s, kids⟩))) := by
  have e : pnodeM xs ⟨4, n, s, kids⟩ = ((n == 0) && shapeM s kids.length (pairP xs kids)) := by unfold pnodeM pnodeB; simp
  rw [e]
  match kids, hkl, hin with
  | [], _, _ =>
    refine FCon.intro PM _ Try.func57 (by kernel_rfl) rfl _ Try.ntmps57 rfl [(11, 21, [], [], (lin [] [0, 1, 2, 3, 4, 5, 6, 7, 8, 9, 10, 11, 12, 13, 14, 15, 16, 17, 18, 19, 20]))] (by decide +kernel) (by simp) (by simp) rfl (by first | rfl | simp only [go_sem]) ?_
    (have hWf := WFx.mk @DPNode.enc_eq; repeat' (first | refine zS ?_ | exact zE | with_reducible apply And.intro | refine zK (c_conShape s hs 0 false) ?_ | ((with_reducible intro hb0); revert hb0; with_reducible first | exact zB0 | refine zB fun hb => ?_ | fail) | ((with_reducible apply q_Meet); exact zM) | exact zC | refine zT ?_ | fail))
    all_goals rfl
  | [z], _, hin =>
    obtain ⟨k, hz, hk⟩ := hin rfl
    have hz : z = (k : Int) := hz
    subst hz
    rw [pairP_at xs [(k : Int)] rfl k hk rfl]
    have hg := getD_map DPNode.enc xs k hk
    have he := DPNode.enc_eq xs[k]
    refine FCon.intro PM _ Try.func57 (by kernel_rfl) rfl _ Try.ntmps57 rfl [(11, 21, [], [], (lin [] [0, 1, 2, 3, 4, 5, 6, 7, 8, 9, 10, 11, 12, 13, 14, 15, 16, 17, 18, 19, 20]))] (by decide +kernel) (by simp) (by simp) rfl (by first | rfl | simp only [go_sem]) ?_
    (have hWf := WFx.mk (And.intro @DPNode.enc_eq <| And.intro @hg <| And.intro @he <| @iE_eq); repeat' (first | refine zS ?_ | exact zE | with_reducible apply And.intro | refine zK (c_conShape s hs 1 (xs[k].kind == 5)) ?_ | ((with_reducible intro hb0); revert hb0; with_reducible first | exact zB0 | refine zB fun hb => ?_ | fail) | ((with_reducible apply q_Meet); exact zM) | exact zC | refine zT ?_ | fail))
  | a :: b :: l, _, _ =>
    rw [pairP_no xs (a :: b :: l) (by simp)]
    have hl1 : (((l.length + 1 + 1 : Nat) : Int) == 1) = false := by simp; omega
    cases hn : (n == 0)
    all_goals
      refine FCon.intro (PMr [11]) _ Try.func57 (by kernel_rfl) rfl _ Try.ntmps57 rfl [(11, 21, [], [], (lin [] [0, 1, 2, 3, 4, 5, 6, 7, 8, 9, 10, 11, 12, 13, 14, 15, 16, 17, 18, 19, 20]))] (by decide +kernel) (by simp) (by simp) rfl (by first | rfl | simp only [go_sem]) ?_
      (have hWf := WFx.mk (And.intro @DPNode.enc_eq <| And.intro @iE_eq <| And.intro @hl1 <| @hn); repeat' (first | refine zS ?_ | exact zE | with_reducible apply And.intro | refine zK (c_conShape s hs (l.length + 1 + 1) false) ?_ | ((with_reducible intro hb0); revert hb0; with_reducible first | exact zB0 | refine zB fun hb => ?_ | fail) | ((with_reducible apply q_Meet); exact zM) | exact zC | refine zT ?_ | fail))
set_option maxRecDepth 100000 in
set_option maxHeartbeats 4000000 in
theorem c_patNodeOk (xs : List DPNode) (x : DPNode) (hx : x.ok) (hkl : x.kids.length ≤ 1048576) (hin : ∀ h1 : x.kids.length = 1, ∃ k : Nat, x.kids[0]'(by omega) = (k : Int) ∧ k < xs.length) : FCon Try.prog 57 [.ag [.sl 4 (xs.map DPNode.enc)], .ag x.enc] (fun r _ => r = .s (.bool (pnodeM xs x))) := by
  obtain ⟨kind, n, s, kids⟩ := x
  obtain ⟨-, -, hs, -⟩ := hx
  dsimp only at hkl hin hs
  by_cases hr : kind < 1 ∨ 6 < kind
  · rw [show pnodeM xs ⟨kind, n, s, kids⟩ = false from pnode_out hr]
    have e1 : (kind == 1) = false := by simp; omega
    have e2 : (kind == 2) = false := by simp; omega
    have e3 : (kind == 3) = false := by simp; omega
    have e4 : (kind == 4) = false := by simp; omega
    have e5 : (kind == 5) = false := by simp; omega
    have e6 : (kind == 6) = false := by simp; omega
    refine FCon.intro PM _ Try.func57 (by kernel_rfl) rfl _ Try.ntmps57 rfl [(11, 21, [], [], (lin [] [0, 1, 2, 3, 4, 5, 6, 7, 8, 9, 10, 11, 12, 13, 14, 15, 16, 17, 18, 19, 20]))] (by decide +kernel) (by simp) (by simp) rfl (by first | rfl | simp only [go_sem]) ?_
    (have hWf := WFx.mk (And.intro @DPNode.enc_eq <| And.intro @e1 <| And.intro @e2 <| And.intro @e3 <| And.intro @e4 <| And.intro @e5 <| @e6); repeat' (first | refine zS ?_ | exact zE | with_reducible apply And.intro | ((with_reducible intro hb0); revert hb0; with_reducible first | exact zB0 | refine zB fun hb => ?_ | fail) | ((with_reducible apply q_Meet); exact zM) | exact zC | refine zT ?_ | fail))
  · by_cases h4 : kind = 4
    · subst h4
      exact patN_4 xs n s kids hs hkl hin
    · rcases (show kind = 1 ∨ kind = 2 ∨ kind = 3 ∨ kind = 5 ∨ kind = 6 by omega) with rfl | rfl | rfl | rfl | rfl
      all_goals
        clear hin h4 hr
        refine FCon.intro PM _ Try.func57 (by kernel_rfl) rfl _ Try.ntmps57 rfl [(11, 21, [], [], (lin [] [0, 1, 2, 3, 4, 5, 6, 7, 8, 9, 10, 11, 12, 13, 14, 15, 16, 17, 18, 19, 20]))] (by decide +kernel) (by simp) (by simp) rfl (by first | rfl | simp only [go_sem]) ?_
        (have hWf := WFx.mk @DPNode.enc_eq; repeat' (first | refine zS ?_ | exact zE | with_reducible apply And.intro | refine zK (c_implNameOk s hs) ?_ | refine zK (c_within n (-4611686018427387903) 4611686018427387903) ?_ | ((with_reducible intro hb0); revert hb0; with_reducible first | exact zB0 | refine zB fun hb => ?_ | fail) | ((with_reducible apply q_Meet); exact zM) | exact zC | refine zT ?_ | fail))
        all_goals exact sB (by unfold pnodeM pnodeB; first | (simp_all; done) | grind)
theorem geB {a b : Int} (h : a ≤ b) : decide (b ≥ a) = true := decide_eq_true h
set_option maxRecDepth 100000 in
set_option maxHeartbeats 8000000 in
theorem l04P_N (xs : List DPNode) (hl : xs.length ≤ 1048576) (kind n : Int) (s : ByteArray) (hs : s.size ≤ maxLen) : FCon Try.prog 48 [.ag [.sl 4 (xs.map DPNode.enc)], .ag (DPNode.mk kind n s []).enc] (fun r _ => r = .s (.bool (pnodeB false ⟨kind, n, s, []⟩))) := by
  rcases (show (kind < 1 ∨ 6 < kind) ∨ kind = 1 ∨ kind = 2 ∨ kind = 3 ∨ kind = 4 ∨ kind = 5 ∨ kind = 6 by omega) with hr | hin
  · have e1 : (kind == 1) = false := by simp; omega
    have e2 : (kind == 2) = false := by simp; omega
    have e3 : (kind == 3) = false := by simp; omega
    have e4 : (kind == 4) = false := by simp; omega
    have e5 : (kind == 5) = false := by simp; omega
    have e6 : (kind == 6) = false := by simp; omega
    rw [pnode_out (by exact hr)]
    refine FCon.intro (PMr [1]) _ Try.func48 (by kernel_rfl) rfl _ Try.ntmps48 rfl [(1, 28, [], [], (lin [] [0, 1, 2, 3, 4, 5, 6, 7, 8, 9, 10, 11, 12, 13, 14, 15, 16, 17, 18, 19, 20, 21, 22, 23, 24, 25, 26, 27]))] (by decide +kernel) (by simp) (by simp) rfl (by first | rfl | simp only [go_sem]) ?_
    (have hWf := WFx.mk (And.intro @DPNode.enc_eq <| And.intro @iE_eq <| And.intro @e1 <| And.intro @e2 <| And.intro @e3 <| And.intro @e4 <| And.intro @e5 <| @e6); repeat' (first | refine zS ?_ | exact zE | with_reducible apply And.intro | ((with_reducible intro hb0); revert hb0; with_reducible first | exact zB0 | refine zB fun hb => ?_ | fail) | ((with_reducible apply q_Meet); exact zM) | exact zC | refine zT ?_ | fail))
  · rcases hin with rfl | rfl | rfl | rfl | rfl | rfl
    all_goals
      refine FCon.intro (PMr [1]) _ Try.func48 (by kernel_rfl) rfl _ Try.ntmps48 rfl [(1, 28, [], [], (lin [] [0, 1, 2, 3, 4, 5, 6, 7, 8, 9, 10, 11, 12, 13, 14, 15, 16, 17, 18, 19, 20, 21, 22, 23, 24, 25, 26, 27]))] (by decide +kernel) (by simp) (by simp) rfl (by first | rfl | simp only [go_sem]) ?_
      (have hWf := WFx.mk (And.intro @DPNode.enc_eq <| @iE_eq); repeat' (first | refine zS ?_ | exact zE | with_reducible apply And.intro | ((with_reducible apply q_CallG); refine zG (c_l04ConOk s hs _ _) ?_) | ((with_reducible apply q_CallQ); refine CallQ_mk (c_l04ConOk s hs _ _) ?_) | refine zK (c_specNameOk s hs) ?_ | ((with_reducible intro hb0); revert hb0; with_reducible first | exact zB0 | refine zB fun hb => ?_ | fail) | ((with_reducible apply q_Meet); exact zM) | exact zC | refine zT ?_ | fail))
      all_goals exact sB (by unfold pnodeB; first | (simp_all; done) | grind)
set_option maxRecDepth 100000 in
set_option maxHeartbeats 8000000 in
theorem l04P_B (xs : List DPNode) (hl : xs.length ≤ 1048576) (kind n : Int) (s : ByteArray) (hs : s.size ≤ maxLen) (z : Int) (g1 : decide (z ≥ 0) = false) : FCon Try.prog 48 [.ag [.sl 4 (xs.map DPNode.enc)], .ag (DPNode.mk kind n s [z]).enc] (fun r _ => r = .s (.bool (pnodeB false ⟨kind, n, s, [z]⟩))) := by
  rcases (show (kind < 1 ∨ 6 < kind) ∨ kind = 1 ∨ kind = 2 ∨ kind = 3 ∨ kind = 4 ∨ kind = 5 ∨ kind = 6 by omega) with hr | hin
  · have e1 : (kind == 1) = false := by simp; omega
    have e2 : (kind == 2) = false := by simp; omega
    have e3 : (kind == 3) = false := by simp; omega
    have e4 : (kind == 4) = false := by simp; omega
    have e5 : (kind == 5) = false := by simp; omega
    have e6 : (kind == 6) = false := by simp; omega
    rw [pnode_out (by exact hr)]
    refine FCon.intro (PMr [1]) _ Try.func48 (by kernel_rfl) rfl _ Try.ntmps48 rfl [(1, 28, [], [], (lin [] [0, 1, 2, 3, 4, 5, 6, 7, 8, 9, 10, 11, 12, 13, 14, 15, 16, 17, 18, 19, 20, 21, 22, 23, 24, 25, 26, 27]))] (by decide +kernel) (by simp) (by simp) rfl (by first | rfl | simp only [go_sem]) ?_
    (have hWf := WFx.mk (And.intro @DPNode.enc_eq <| And.intro @iE_eq <| And.intro @g1 <| And.intro @e1 <| And.intro @e2 <| And.intro @e3 <| And.intro @e4 <| And.intro @e5 <| @e6); repeat' (first | refine zS ?_ | exact zE | with_reducible apply And.intro | ((with_reducible intro hb0); revert hb0; with_reducible first | exact zB0 | refine zB fun hb => ?_ | fail) | ((with_reducible apply q_Meet); exact zM) | exact zC | refine zT ?_ | fail))
  · rcases hin with rfl | rfl | rfl | rfl | rfl | rfl
    all_goals
      refine FCon.intro (PMr [1]) _ Try.func48 (by kernel_rfl) rfl _ Try.ntmps48 rfl [(1, 28, [], [], (lin [] [0, 1, 2, 3, 4, 5, 6, 7, 8, 9, 10, 11, 12, 13, 14, 15, 16, 17, 18, 19, 20, 21, 22, 23, 24, 25, 26, 27]))] (by decide +kernel) (by simp) (by simp) rfl (by first | rfl | simp only [go_sem]) ?_
      (have hWf := WFx.mk (And.intro @DPNode.enc_eq <| And.intro @iE_eq <| @g1); repeat' (first | refine zS ?_ | exact zE | with_reducible apply And.intro | ((with_reducible apply q_CallG); refine zG (c_l04ConOk s hs _ _) ?_) | ((with_reducible apply q_CallQ); refine CallQ_mk (c_l04ConOk s hs _ _) ?_) | refine zK (c_specNameOk s hs) ?_ | ((with_reducible intro hb0); revert hb0; with_reducible first | exact zB0 | refine zB fun hb => ?_ | fail) | ((with_reducible apply q_Meet); exact zM) | exact zC | refine zT ?_ | fail))
      all_goals exact sB (by unfold pnodeB; first | (simp_all; done) | grind)
set_option maxRecDepth 100000 in
set_option maxHeartbeats 8000000 in
theorem l04P_O (xs : List DPNode) (hl : xs.length ≤ 1048576) (kind n : Int) (s : ByteArray) (hs : s.size ≤ maxLen) (z : Int) (g1 : decide (z ≥ 0) = true) (g2 : decide (z < (xs.length : Int)) = false) : FCon Try.prog 48 [.ag [.sl 4 (xs.map DPNode.enc)], .ag (DPNode.mk kind n s [z]).enc] (fun r _ => r = .s (.bool (pnodeB false ⟨kind, n, s, [z]⟩))) := by
  rcases (show (kind < 1 ∨ 6 < kind) ∨ kind = 1 ∨ kind = 2 ∨ kind = 3 ∨ kind = 4 ∨ kind = 5 ∨ kind = 6 by omega) with hr | hin
  · have e1 : (kind == 1) = false := by simp; omega
    have e2 : (kind == 2) = false := by simp; omega
    have e3 : (kind == 3) = false := by simp; omega
    have e4 : (kind == 4) = false := by simp; omega
    have e5 : (kind == 5) = false := by simp; omega
    have e6 : (kind == 6) = false := by simp; omega
    rw [pnode_out (by exact hr)]
    refine FCon.intro (PMr [1]) _ Try.func48 (by kernel_rfl) rfl _ Try.ntmps48 rfl [(1, 28, [], [], (lin [] [0, 1, 2, 3, 4, 5, 6, 7, 8, 9, 10, 11, 12, 13, 14, 15, 16, 17, 18, 19, 20, 21, 22, 23, 24, 25, 26, 27]))] (by decide +kernel) (by simp) (by simp) rfl (by first | rfl | simp only [go_sem]) ?_
    (have hWf := WFx.mk (And.intro @DPNode.enc_eq <| And.intro @iE_eq <| And.intro @g1 <| And.intro @g2 <| And.intro @e1 <| And.intro @e2 <| And.intro @e3 <| And.intro @e4 <| And.intro @e5 <| @e6); repeat' (first | refine zS ?_ | exact zE | with_reducible apply And.intro | ((with_reducible intro hb0); revert hb0; with_reducible first | exact zB0 | refine zB fun hb => ?_ | fail) | ((with_reducible apply q_Meet); exact zM) | exact zC | refine zT ?_ | fail))
  · rcases hin with rfl | rfl | rfl | rfl | rfl | rfl
    all_goals
      refine FCon.intro (PMr [1]) _ Try.func48 (by kernel_rfl) rfl _ Try.ntmps48 rfl [(1, 28, [], [], (lin [] [0, 1, 2, 3, 4, 5, 6, 7, 8, 9, 10, 11, 12, 13, 14, 15, 16, 17, 18, 19, 20, 21, 22, 23, 24, 25, 26, 27]))] (by decide +kernel) (by simp) (by simp) rfl (by first | rfl | simp only [go_sem]) ?_
      (have hWf := WFx.mk (And.intro @DPNode.enc_eq <| And.intro @iE_eq <| And.intro @g1 <| @g2); repeat' (first | refine zS ?_ | exact zE | with_reducible apply And.intro | ((with_reducible apply q_CallG); refine zG (c_l04ConOk s hs _ _) ?_) | ((with_reducible apply q_CallQ); refine CallQ_mk (c_l04ConOk s hs _ _) ?_) | refine zK (c_specNameOk s hs) ?_ | ((with_reducible intro hb0); revert hb0; with_reducible first | exact zB0 | refine zB fun hb => ?_ | fail) | ((with_reducible apply q_Meet); exact zM) | exact zC | refine zT ?_ | fail))
      all_goals exact sB (by unfold pnodeB; first | (simp_all; done) | grind)
set_option maxRecDepth 100000 in
set_option maxHeartbeats 8000000 in
theorem l04P_K (xs : List DPNode) (hl : xs.length ≤ 1048576) (kind n : Int) (s : ByteArray) (hs : s.size ≤ maxLen) (k : Nat) (hk : k < xs.length) : FCon Try.prog 48 [.ag [.sl 4 (xs.map DPNode.enc)], .ag (DPNode.mk kind n s [(k : Int)]).enc] (fun r _ => r = .s (.bool (pnodeB (xs[k].kind == 5) ⟨kind, n, s, [(k : Int)]⟩))) := by
  have g1 := geB (Int.natCast_nonneg k)
  have g2 := decide_eq_true (show (k : Int) < xs.length by omega)
  have g3 := getD_map DPNode.enc xs k hk
  have g4 := DPNode.enc_eq xs[k]
  rcases (show (kind < 1 ∨ 6 < kind) ∨ kind = 1 ∨ kind = 2 ∨ kind = 3 ∨ kind = 4 ∨ kind = 5 ∨ kind = 6 by omega) with hr | hin
  · have e1 : (kind == 1) = false := by simp; omega
    have e2 : (kind == 2) = false := by simp; omega
    have e3 : (kind == 3) = false := by simp; omega
    have e4 : (kind == 4) = false := by simp; omega
    have e5 : (kind == 5) = false := by simp; omega
    have e6 : (kind == 6) = false := by simp; omega
    rw [pnode_out (by exact hr)]
    refine FCon.intro (PMr [1]) _ Try.func48 (by kernel_rfl) rfl _ Try.ntmps48 rfl [(1, 28, [], [], (lin [] [0, 1, 2, 3, 4, 5, 6, 7, 8, 9, 10, 11, 12, 13, 14, 15, 16, 17, 18, 19, 20, 21, 22, 23, 24, 25, 26, 27]))] (by decide +kernel) (by simp) (by simp) rfl (by first | rfl | simp only [go_sem]) ?_
    (have hWf := WFx.mk (And.intro @DPNode.enc_eq <| And.intro @iE_eq <| And.intro @g1 <| And.intro @g2 <| And.intro @g3 <| And.intro @g4 <| And.intro @e1 <| And.intro @e2 <| And.intro @e3 <| And.intro @e4 <| And.intro @e5 <| @e6); repeat' (first | refine zS ?_ | exact zE | with_reducible apply And.intro | ((with_reducible intro hb0); revert hb0; with_reducible first | exact zB0 | refine zB fun hb => ?_ | fail) | ((with_reducible apply q_Meet); exact zM) | exact zC | refine zT ?_ | fail))
  · rcases hin with rfl | rfl | rfl | rfl | rfl | rfl
    all_goals
      refine FCon.intro (PMr [1]) _ Try.func48 (by kernel_rfl) rfl _ Try.ntmps48 rfl [(1, 28, [], [], (lin [] [0, 1, 2, 3, 4, 5, 6, 7, 8, 9, 10, 11, 12, 13, 14, 15, 16, 17, 18, 19, 20, 21, 22, 23, 24, 25, 26, 27]))] (by decide +kernel) (by simp) (by simp) rfl (by first | rfl | simp only [go_sem]) ?_
      (have hWf := WFx.mk (And.intro @DPNode.enc_eq <| And.intro @iE_eq <| And.intro @g1 <| And.intro @g2 <| And.intro @g3 <| @g4); repeat' (first | refine zS ?_ | exact zE | with_reducible apply And.intro | ((with_reducible apply q_CallG); refine zG (c_l04ConOk s hs _ _) ?_) | ((with_reducible apply q_CallQ); refine CallQ_mk (c_l04ConOk s hs _ _) ?_) | refine zK (c_specNameOk s hs) ?_ | ((with_reducible intro hb0); revert hb0; with_reducible first | exact zB0 | refine zB fun hb => ?_ | fail) | ((with_reducible apply q_Meet); exact zM) | exact zC | refine zT ?_ | fail))
      all_goals exact sB (by unfold pnodeB; first | (simp_all; done) | grind)
set_option maxRecDepth 100000 in
set_option maxHeartbeats 8000000 in
theorem l04P_L (xs : List DPNode) (hl : xs.length ≤ 1048576) (kind n : Int) (s : ByteArray) (hs : s.size ≤ maxLen) (a b : Int) (l : List Int) (hkl : l.length ≤ 1048576) : FCon Try.prog 48 [.ag [.sl 4 (xs.map DPNode.enc)], .ag (DPNode.mk kind n s (a :: b :: l)).enc] (fun r _ => r = .s (.bool (pnodeB false ⟨kind, n, s, (a :: b :: l)⟩))) := by
  have g1 : (((l.length + 1 + 1 : Nat) : Int) == 1) = false := by simp; omega
  rcases (show (kind < 1 ∨ 6 < kind) ∨ kind = 1 ∨ kind = 2 ∨ kind = 3 ∨ kind = 4 ∨ kind = 5 ∨ kind = 6 by omega) with hr | hin
  · have e1 : (kind == 1) = false := by simp; omega
    have e2 : (kind == 2) = false := by simp; omega
    have e3 : (kind == 3) = false := by simp; omega
    have e4 : (kind == 4) = false := by simp; omega
    have e5 : (kind == 5) = false := by simp; omega
    have e6 : (kind == 6) = false := by simp; omega
    rw [pnode_out (by exact hr)]
    refine FCon.intro (PMr [1]) _ Try.func48 (by kernel_rfl) rfl _ Try.ntmps48 rfl [(1, 28, [], [], (lin [] [0, 1, 2, 3, 4, 5, 6, 7, 8, 9, 10, 11, 12, 13, 14, 15, 16, 17, 18, 19, 20, 21, 22, 23, 24, 25, 26, 27]))] (by decide +kernel) (by simp) (by simp) rfl (by first | rfl | simp only [go_sem]) ?_
    (have hWf := WFx.mk (And.intro @DPNode.enc_eq <| And.intro @iE_eq <| And.intro @g1 <| And.intro @e1 <| And.intro @e2 <| And.intro @e3 <| And.intro @e4 <| And.intro @e5 <| @e6); repeat' (first | refine zS ?_ | exact zE | with_reducible apply And.intro | ((with_reducible intro hb0); revert hb0; with_reducible first | exact zB0 | refine zB fun hb => ?_ | fail) | ((with_reducible apply q_Meet); exact zM) | exact zC | refine zT ?_ | fail))
  · rcases hin with rfl | rfl | rfl | rfl | rfl | rfl
    all_goals
      refine FCon.intro (PMr [1]) _ Try.func48 (by kernel_rfl) rfl _ Try.ntmps48 rfl [(1, 28, [], [], (lin [] [0, 1, 2, 3, 4, 5, 6, 7, 8, 9, 10, 11, 12, 13, 14, 15, 16, 17, 18, 19, 20, 21, 22, 23, 24, 25, 26, 27]))] (by decide +kernel) (by simp) (by simp) rfl (by first | rfl | simp only [go_sem]) ?_
      (have hWf := WFx.mk (And.intro @DPNode.enc_eq <| And.intro @iE_eq <| @g1); repeat' (first | refine zS ?_ | exact zE | with_reducible apply And.intro | ((with_reducible apply q_CallG); refine zG (c_l04ConOk s hs _ _) ?_) | ((with_reducible apply q_CallQ); refine CallQ_mk (c_l04ConOk s hs _ _) ?_) | refine zK (c_specNameOk s hs) ?_ | ((with_reducible intro hb0); revert hb0; with_reducible first | exact zB0 | refine zB fun hb => ?_ | fail) | ((with_reducible apply q_Meet); exact zM) | exact zC | refine zT ?_ | fail))
      all_goals exact sB (by unfold pnodeB; first | (simp_all; done) | grind)
theorem c_l04PNode (xs : List DPNode) (x : DPNode) (hx : x.ok) (hl : xs.length ≤ 1048576) (hkl : x.kids.length ≤ 1048576) : FCon Try.prog 48 [.ag [.sl 4 (xs.map DPNode.enc)], .ag x.enc] (fun r _ => r = .s (.bool (pnodeM xs x))) := by
  obtain ⟨kind, n, s, kids⟩ := x
  obtain ⟨-, -, hs, -⟩ := hx
  dsimp only at hkl hs
  show FCon Try.prog 48 _ (fun r _ => r = .s (.bool (pnodeB (pairP xs kids) ⟨kind, n, s, kids⟩)))
  match kids, hkl with
  | [], _ => exact l04P_N xs hl kind n s hs
  | [z], _ =>
    by_cases h0 : z < 0
    · rw [pairP_out xs [z] rfl (.inl h0)]
      exact l04P_B xs hl kind n s hs z (decide_eq_false (by omega))
    · by_cases h1 : (xs.length : Int) ≤ z
      · rw [pairP_out xs [z] rfl (.inr h1)]
        exact l04P_O xs hl kind n s hs z (decide_eq_true (by omega)) (decide_eq_false (by omega))
      · have hk : z.toNat < xs.length := by omega
        obtain ⟨k, rfl⟩ : ∃ k : Nat, z = (k : Int) := ⟨z.toNat, by omega⟩
        have hk : k < xs.length := by omega
        rw [pairP_at xs [(k : Int)] rfl k hk rfl]
        exact l04P_K xs hl kind n s hs k hk
  | a :: b :: l, hkl =>
    rw [pairP_no _ _ (by simp)]
    exact l04P_L xs hl kind n s hs a b l (by simp at hkl; omega)
end Go.Proofs.Ythkgncddilkmbaa
