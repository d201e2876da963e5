/- Parts of the proof, laid together: HProgD, HProgS, PoB, HFoldC, FoldS, FoldTw, HEqF, HSame, FoldTL. -/
import Derived.BigQuiet
import Derived.Deep.LoopGhost
import Derived.Deep.QuietTactic
import Derived.Deep.RegionLaw
import Derived.Deep.RegionWith
import Derived.Deep.Slices
import Derived.Laws.Cover3
import Derived.Laws.EntriesVeiled
import Derived.Laws.IdiomStrings
import Derived.Laws.StructEq
import Derived.Lib.AppendStr
import Derived.Lib.Hide
import Derived.Lib.SlBytesConst
import Derived.ProofKit
import Derived.Test.YtgcdbmcoendcdaaGreatProg
import Derived.WalkKit
import Derived.Test.YtgcdbmcoendcdaaGreatS10
set_option maxRecDepth 100000
set_option maxHeartbeats 8000000
set_option linter.unusedVariables false
set_option linter.unusedSimpArgs false
namespace Go.Proofs.YtgcdbmcoendcdaaGreat
open Go.RowKit
theorem zj {nodes : List MNode} {n : MNode} {nb : Bool} (h : n.at_ < 0 \/ (0 <= arI n.kind /\ (n.kids.length : Int) ≠ arI n.kind) \/ (n.kind ≠ 13 /\ 0 < (n.pats.length : Int)) \/ (n.kind ≠ 1 /\ n.kind ≠ 3 /\ n.n ≠ 0)) : ya nodes n nb = false := by
 unfold ya
 rcases h with h | ⟨h1, h2⟩ | ⟨h1, h2⟩ | ⟨h1, h2, h3⟩
 ·rw [decide_eq_false (by omega : ¬ 0 <= n.at_)]; simp
 ·rw [decide_eq_false (by omega : ¬ arI n.kind < 0), decide_eq_false h2]; simp
 ·rw [decide_eq_false h1, decide_eq_false (by omega : ¬ n.pats.length = 0)]; simp
 ·rw [decide_eq_false h1, decide_eq_false h2, decide_eq_false h3]; simp
theorem zP {nodes : List MNode} {n : MNode} {nb : Bool} (h1 : 0 <= n.at_) (h2 : arI n.kind < 0 \/ (n.kids.length : Int) = arI n.kind) (h3 : n.kind = 13 \/ (n.pats.length : Int) = 0) (h4 : n.kind = 1 \/ n.kind = 3 \/ n.n = 0) : ya nodes n nb = xG nodes n nb := by
 unfold ya
 rw [decide_eq_true h1]
 have e2 : (decide (arI n.kind < 0) || decide ((n.kids.length : Int) = arI n.kind)) = true := by simpa using h2
 have e3 : (decide (n.kind = 13) || decide (n.pats.length = 0)) = true := by
  rcases h3 with h | h
  ·rw [decide_eq_true h]; rfl
  ·rw [decide_eq_true (by omega : n.pats.length = 0)]; simp
 have e4 : (decide (n.kind = 1) || decide (n.kind = 3) || decide (n.n = 0)) = true := by
  rcases h4 with h | h | h <;> simp [h]
 rw [e2, e3, e4]; rfl
theorem Z1 (p : MProgram) (kind : Int) (hkd : (kind = 1 /\ arI kind = 0) \/ (kind = 2 /\ arI kind = 0) \/ (kind = 3 /\ arI kind = 0)) (at_ n : Int) (s : ByteArray) (kids : List Int) (pats : List MPat) (hpl : pats.length <= 1048576) (hsz : s.size <= maxLen) (f : FuncId) (caps : List D) (hm : PM.md f = []) (nb : Bool) (hf : FCon Tryz.prog f (.ag (MNode.mk kind at_ n s kids pats).enc :: caps) (fun r _ => r = .s (.bool nb))) :
  FCon Tryz.prog 97 [.ag p.enc, .ag (MNode.mk kind at_ n s kids pats).enc, .fn f caps] (fun r _ => r = .s (.bool (ya p.nodes ⟨kind, at_, n, s, kids, pats⟩ nb))) := by
 rcases hkd with ⟨rfl, ha⟩ | ⟨rfl, ha⟩ | ⟨rfl, ha⟩
 all_goals
  refine FI PM Tryz.func97 Tryz.ntmps97 [(16, 10, [], [], (lin [] [0, 1, 2, 3, 4, 5, 6, 7, 8, 9])), (18, 3, [], [], (lin [] [0, 1, 2])), (20, 17, [], [], (lin [] [0, 1, 2, 3, 4, 5, 6, 7, 8, 9, 10, 11, 12, 13, 14, 15, 16]))] rfl rfl ?_
  rw [MNode.enc_eq] at hf
  (have hWf := w5 @MNode.enc_eq @MProgram.enc_eq @ha @hm @xd; repeat' (first | refine zS ?_ | refine zI ?_ ?_ | ((with_reducible apply xc); refine zG (xY _) ?_) | ((with_reducible apply xl); refine xi (xY _) ?_) | refine zK (hf) ?_ | refine zK (yn n 0 4611686018427387903) ?_ | refine zK (um) ?_ | refine zK (vF s) ?_ | exact zF0 | refine zD fun hb => ?_ | exact zC | refine zT ?_ | fail))
  all_goals
   (try clear hf)
   first
    | exact fun h => ⟨h, by omega⟩
    | exact fun h => ⟨h, by omega, by omega⟩
    | exact fun h => ⟨h, h, by omega, by omega⟩
    | rw [zj (by (try dsimp only [List.length_nil, List.length_cons]); rw [ha]; omega)]
    | (rw [zP (by (try dsimp only); omega) (by (try dsimp only [List.length_nil, List.length_cons]); rw [ha]; omega) (by (try dsimp only); omega) (by (try dsimp only); omega)]; (try simp only [xG, Int.reduceEq, or_false, false_or, or_true, true_or, or_self, if_true, if_false, ↓reduceIte, Int.reduceLE, decide_true, Bool.true_and]); (try (refine sB ?_; first | rfl | rfl | (rw [Bool.eq_iff_iff]; simp only [Bool.and_eq_true, decide_eq_true_eq, beq_iff_eq]; omega) | (simp; done) | (rw [Bool.eq_iff_iff]; simp; omega))))
theorem Z2 (p : MProgram) (kind : Int) (hkd : (kind = 5 /\ arI kind = 1) \/ (kind = 7 /\ arI kind = 2) \/ (kind = 15 /\ arI kind = 2)) (at_ n : Int) (s : ByteArray) (kids : List Int) (pats : List MPat) (hpl : pats.length <= 1048576) (hsz : s.size <= maxLen) (f : FuncId) (caps : List D) (hm : PM.md f = []) (nb : Bool) (hf : FCon Tryz.prog f (.ag (MNode.mk kind at_ n s kids pats).enc :: caps) (fun r _ => r = .s (.bool nb))) :
  FCon Tryz.prog 97 [.ag p.enc, .ag (MNode.mk kind at_ n s kids pats).enc, .fn f caps] (fun r _ => r = .s (.bool (ya p.nodes ⟨kind, at_, n, s, kids, pats⟩ nb))) := by
 rcases hkd with ⟨rfl, ha⟩ | ⟨rfl, ha⟩ | ⟨rfl, ha⟩
 all_goals
  refine FI PM Tryz.func97 Tryz.ntmps97 [(16, 10, [], [], (lin [] [0, 1, 2, 3, 4, 5, 6, 7, 8, 9])), (18, 3, [], [], (lin [] [0, 1, 2])), (20, 17, [], [], (lin [] [0, 1, 2, 3, 4, 5, 6, 7, 8, 9, 10, 11, 12, 13, 14, 15, 16]))] rfl rfl ?_
  rw [MNode.enc_eq] at hf
  (have hWf := w5 @MNode.enc_eq @MProgram.enc_eq @ha @hm @xd; repeat' (first | refine zS ?_ | refine zI ?_ ?_ | ((with_reducible apply xc); refine zG (xY _) ?_) | ((with_reducible apply xl); refine xi (xY _) ?_) | refine zK (hf) ?_ | refine zK (yn n 0 4611686018427387903) ?_ | refine zK (um) ?_ | refine zK (vF s) ?_ | exact zF0 | refine zD fun hb => ?_ | exact zC | refine zT ?_ | fail))
  all_goals
   (try clear hf)
   first
    | exact fun h => ⟨h, by omega⟩
    | exact fun h => ⟨h, by omega, by omega⟩
    | exact fun h => ⟨h, h, by omega, by omega⟩
    | rw [zj (by (try dsimp only [List.length_nil, List.length_cons]); rw [ha]; omega)]
    | (rw [zP (by (try dsimp only); omega) (by (try dsimp only [List.length_nil, List.length_cons]); rw [ha]; omega) (by (try dsimp only); omega) (by (try dsimp only); omega)]; (try simp only [xG, Int.reduceEq, or_false, false_or, or_true, true_or, or_self, if_true, if_false, ↓reduceIte, Int.reduceLE, decide_true, Bool.true_and]); (try (refine sB ?_; first | rfl | rfl | (rw [Bool.eq_iff_iff]; simp only [Bool.and_eq_true, decide_eq_true_eq, beq_iff_eq]; omega) | (simp; done) | (rw [Bool.eq_iff_iff]; simp; omega))))
theorem Z3 (p : MProgram) (kind : Int) (hkd : (kind = 6 /\ arI kind = 2) \/ (kind = 9 /\ arI kind = 3) \/ (kind = 10 /\ arI kind = 2)) (at_ n : Int) (s : ByteArray) (kids : List Int) (pats : List MPat) (hpl : pats.length <= 1048576) (hsz : s.size <= maxLen) (f : FuncId) (caps : List D) (hm : PM.md f = []) (nb : Bool) (hf : FCon Tryz.prog f (.ag (MNode.mk kind at_ n s kids pats).enc :: caps) (fun r _ => r = .s (.bool nb))) :
  FCon Tryz.prog 97 [.ag p.enc, .ag (MNode.mk kind at_ n s kids pats).enc, .fn f caps] (fun r _ => r = .s (.bool (ya p.nodes ⟨kind, at_, n, s, kids, pats⟩ nb))) := by
 rcases hkd with ⟨rfl, ha⟩ | ⟨rfl, ha⟩ | ⟨rfl, ha⟩
 all_goals
  refine FI PM Tryz.func97 Tryz.ntmps97 [(16, 10, [], [], (lin [] [0, 1, 2, 3, 4, 5, 6, 7, 8, 9])), (18, 3, [], [], (lin [] [0, 1, 2])), (20, 17, [], [], (lin [] [0, 1, 2, 3, 4, 5, 6, 7, 8, 9, 10, 11, 12, 13, 14, 15, 16]))] rfl rfl ?_
  rw [MNode.enc_eq] at hf
  (have hWf := w5 @MNode.enc_eq @MProgram.enc_eq @ha @hm @xd; repeat' (first | refine zS ?_ | refine zI ?_ ?_ | ((with_reducible apply xc); refine zG (xY _) ?_) | ((with_reducible apply xl); refine xi (xY _) ?_) | refine zK (hf) ?_ | refine zK (yn n 0 4611686018427387903) ?_ | refine zK (um) ?_ | refine zK (vF s) ?_ | exact zF0 | refine zD fun hb => ?_ | exact zC | refine zT ?_ | fail))
  all_goals
   (try clear hf)
   first
    | exact fun h => ⟨h, by omega⟩
    | exact fun h => ⟨h, by omega, by omega⟩
    | exact fun h => ⟨h, h, by omega, by omega⟩
    | rw [zj (by (try dsimp only [List.length_nil, List.length_cons]); rw [ha]; omega)]
    | (rw [zP (by (try dsimp only); omega) (by (try dsimp only [List.length_nil, List.length_cons]); rw [ha]; omega) (by (try dsimp only); omega) (by (try dsimp only); omega)]; (try simp only [xG, Int.reduceEq, or_false, false_or, or_true, true_or, or_self, if_true, if_false, ↓reduceIte, Int.reduceLE, decide_true, Bool.true_and]); (try (refine sB ?_; first | rfl | rfl | (rw [Bool.eq_iff_iff]; simp only [Bool.and_eq_true, decide_eq_true_eq, beq_iff_eq]; omega) | (simp; done) | (rw [Bool.eq_iff_iff]; simp; omega))))
theorem Z4 (p : MProgram) (kind : Int) (hkd : (kind = 11 /\ arI kind = 2) \/ (kind = 12 /\ arI kind = 0) \/ (kind = 13 /\ arI kind = -1)) (at_ n : Int) (s : ByteArray) (kids : List Int) (pats : List MPat) (hpl : pats.length <= 1048576) (hsz : s.size <= maxLen) (f : FuncId) (caps : List D) (hm : PM.md f = []) (nb : Bool) (hf : FCon Tryz.prog f (.ag (MNode.mk kind at_ n s kids pats).enc :: caps) (fun r _ => r = .s (.bool nb))) :
  FCon Tryz.prog 97 [.ag p.enc, .ag (MNode.mk kind at_ n s kids pats).enc, .fn f caps] (fun r _ => r = .s (.bool (ya p.nodes ⟨kind, at_, n, s, kids, pats⟩ nb))) := by
 rcases hkd with ⟨rfl, ha⟩ | ⟨rfl, ha⟩ | ⟨rfl, ha⟩
 all_goals
  refine FI PM Tryz.func97 Tryz.ntmps97 [(16, 10, [], [], (lin [] [0, 1, 2, 3, 4, 5, 6, 7, 8, 9])), (18, 3, [], [], (lin [] [0, 1, 2])), (20, 17, [], [], (lin [] [0, 1, 2, 3, 4, 5, 6, 7, 8, 9, 10, 11, 12, 13, 14, 15, 16]))] rfl rfl ?_
  rw [MNode.enc_eq] at hf
  (have hWf := w5 @MNode.enc_eq @MProgram.enc_eq @ha @hm @xd; repeat' (first | refine zS ?_ | refine zI ?_ ?_ | ((with_reducible apply xc); refine zG (xY _) ?_) | ((with_reducible apply xl); refine xi (xY _) ?_) | refine zK (hf) ?_ | refine zK (yn n 0 4611686018427387903) ?_ | refine zK (um) ?_ | refine zK (vF s) ?_ | exact zF0 | refine zD fun hb => ?_ | exact zC | refine zT ?_ | fail))
  all_goals
   (try clear hf)
   first
    | exact fun h => ⟨h, by omega⟩
    | exact fun h => ⟨h, by omega, by omega⟩
    | exact fun h => ⟨h, h, by omega, by omega⟩
    | rw [zj (by (try dsimp only [List.length_nil, List.length_cons]); rw [ha]; omega)]
    | (rw [zP (by (try dsimp only); omega) (by (try dsimp only [List.length_nil, List.length_cons]); rw [ha]; omega) (by (try dsimp only); omega) (by (try dsimp only); omega)]; (try simp only [xG, Int.reduceEq, or_false, false_or, or_true, true_or, or_self, if_true, if_false, ↓reduceIte, Int.reduceLE, decide_true, Bool.true_and]); (try (refine sB ?_; first | rfl | (rw [show decide ((pats.length : Int) ≥ 1) = decide (1 <= pats.length) from (by rw [decide_eq_decide]; omega), show ((kids.length : Int) == (pats.length : Int) + 1) = decide (kids.length = pats.length + 1) from (by rw [Bool.eq_iff_iff]; simp only [beq_iff_eq, decide_eq_true_eq]; omega)]) | (rw [Bool.eq_iff_iff]; simp only [Bool.and_eq_true, decide_eq_true_eq, beq_iff_eq]; omega) | (simp; done) | (rw [Bool.eq_iff_iff]; simp; omega))))
theorem Z5 (p : MProgram) (kind : Int) (hkd : (kind = 14 /\ arI kind = 1) \/ (kind = 16 /\ arI kind = 1) \/ (kind = 17 /\ arI kind = 1)) (at_ n : Int) (s : ByteArray) (kids : List Int) (pats : List MPat) (hpl : pats.length <= 1048576) (hsz : s.size <= maxLen) (f : FuncId) (caps : List D) (hm : PM.md f = []) (nb : Bool) (hf : FCon Tryz.prog f (.ag (MNode.mk kind at_ n s kids pats).enc :: caps) (fun r _ => r = .s (.bool nb))) :
  FCon Tryz.prog 97 [.ag p.enc, .ag (MNode.mk kind at_ n s kids pats).enc, .fn f caps] (fun r _ => r = .s (.bool (ya p.nodes ⟨kind, at_, n, s, kids, pats⟩ nb))) := by
 rcases hkd with ⟨rfl, ha⟩ | ⟨rfl, ha⟩ | ⟨rfl, ha⟩
 all_goals
  refine FI PM Tryz.func97 Tryz.ntmps97 [(16, 10, [], [], (lin [] [0, 1, 2, 3, 4, 5, 6, 7, 8, 9])), (18, 3, [], [], (lin [] [0, 1, 2])), (20, 17, [], [], (lin [] [0, 1, 2, 3, 4, 5, 6, 7, 8, 9, 10, 11, 12, 13, 14, 15, 16]))] rfl rfl ?_
  rw [MNode.enc_eq] at hf
  (have hWf := w5 @MNode.enc_eq @MProgram.enc_eq @ha @hm @xd; repeat' (first | refine zS ?_ | refine zI ?_ ?_ | ((with_reducible apply xc); refine zG (xY _) ?_) | ((with_reducible apply xl); refine xi (xY _) ?_) | refine zK (hf) ?_ | refine zK (yn n 0 4611686018427387903) ?_ | refine zK (um) ?_ | refine zK (vF s) ?_ | exact zF0 | refine zD fun hb => ?_ | exact zC | refine zT ?_ | fail))
  all_goals
   (try clear hf)
   first
    | exact fun h => ⟨h, by omega⟩
    | exact fun h => ⟨h, by omega, by omega⟩
    | exact fun h => ⟨h, h, by omega, by omega⟩
    | rw [zj (by (try dsimp only [List.length_nil, List.length_cons]); rw [ha]; omega)]
    | (rw [zP (by (try dsimp only); omega) (by (try dsimp only [List.length_nil, List.length_cons]); rw [ha]; omega) (by (try dsimp only); omega) (by (try dsimp only); omega)]; (try simp only [xG, Int.reduceEq, or_false, false_or, or_true, true_or, or_self, if_true, if_false, ↓reduceIte, Int.reduceLE, decide_true, Bool.true_and]); (try (refine sB ?_; first | rfl | rfl | (rw [Bool.eq_iff_iff]; simp only [Bool.and_eq_true, decide_eq_true_eq, beq_iff_eq]; omega) | (simp; done) | (rw [Bool.eq_iff_iff]; simp; omega))))
theorem VV (p : MProgram) (kind : Int) (hkd : (kind = 18 /\ arI kind = 2) \/ (kind = 19 /\ arI kind = 2)) (at_ n : Int) (s : ByteArray) (kids : List Int) (pats : List MPat) (hpl : pats.length <= 1048576) (hsz : s.size <= maxLen) (f : FuncId) (caps : List D) (hm : PM.md f = []) (nb : Bool) (hf : FCon Tryz.prog f (.ag (MNode.mk kind at_ n s kids pats).enc :: caps) (fun r _ => r = .s (.bool nb))) :
  FCon Tryz.prog 97 [.ag p.enc, .ag (MNode.mk kind at_ n s kids pats).enc, .fn f caps] (fun r _ => r = .s (.bool (ya p.nodes ⟨kind, at_, n, s, kids, pats⟩ nb))) := by
 rcases hkd with ⟨rfl, ha⟩ | ⟨rfl, ha⟩
 all_goals
  refine FI PM Tryz.func97 Tryz.ntmps97 [(16, 10, [], [], (lin [] [0, 1, 2, 3, 4, 5, 6, 7, 8, 9])), (18, 3, [], [], (lin [] [0, 1, 2])), (20, 17, [], [], (lin [] [0, 1, 2, 3, 4, 5, 6, 7, 8, 9, 10, 11, 12, 13, 14, 15, 16]))] rfl rfl ?_
  rw [MNode.enc_eq] at hf
  (have hWf := w5 @MNode.enc_eq @MProgram.enc_eq @ha @hm @xd; repeat' (first | refine zS ?_ | refine zI ?_ ?_ | ((with_reducible apply xc); refine zG (xY _) ?_) | ((with_reducible apply xl); refine xi (xY _) ?_) | refine zK (hf) ?_ | refine zK (yn n 0 4611686018427387903) ?_ | refine zK (um) ?_ | refine zK (vF s) ?_ | exact zF0 | refine zD fun hb => ?_ | exact zC | refine zT ?_ | fail))
  all_goals
   (try clear hf)
   first
    | exact fun h => ⟨h, by omega⟩
    | exact fun h => ⟨h, by omega, by omega⟩
    | exact fun h => ⟨h, h, by omega, by omega⟩
    | rw [zj (by (try dsimp only [List.length_nil, List.length_cons]); rw [ha]; omega)]
    | (rw [zP (by (try dsimp only); omega) (by (try dsimp only [List.length_nil, List.length_cons]); rw [ha]; omega) (by (try dsimp only); omega) (by (try dsimp only); omega)]; (try simp only [xG, Int.reduceEq, or_false, false_or, or_true, true_or, or_self, if_true, if_false, ↓reduceIte, Int.reduceLE, decide_true, Bool.true_and]); (try (refine sB ?_; first | rfl | rfl | (rw [Bool.eq_iff_iff]; simp only [Bool.and_eq_true, decide_eq_true_eq, beq_iff_eq]; omega) | (simp; done) | (rw [Bool.eq_iff_iff]; simp; omega))))
theorem nodeOk_4N (p : MProgram) (at_ n : Int) (s : ByteArray) (pats : List MPat) (hpl : pats.length <= 1048576) (hsz : s.size <= maxLen) (f : FuncId) (caps : List D) (hm : PM.md f = []) (nb : Bool) (hf : FCon Tryz.prog f (.ag (MNode.mk 4 at_ n s [] pats).enc :: caps) (fun r _ => r = .s (.bool nb))) :
  FCon Tryz.prog 97 [.ag p.enc, .ag (MNode.mk 4 at_ n s [] pats).enc, .fn f caps] (fun r _ => r = .s (.bool (ya p.nodes ⟨4, at_, n, s, [], pats⟩ nb))) := by
 have ha : arI 4 = -1 := by decide
 rw [MNode.enc_eq] at hf
 refine FI PM Tryz.func97 Tryz.ntmps97 [(16, 10, [], [], (lin [] [0, 1, 2, 3, 4, 5, 6, 7, 8, 9])), (18, 3, [], [], (lin [] [0, 1, 2])), (20, 17, [], [], (lin [] [0, 1, 2, 3, 4, 5, 6, 7, 8, 9, 10, 11, 12, 13, 14, 15, 16]))] rfl rfl ?_
 (have hWf := w5 @MNode.enc_eq @MProgram.enc_eq @ha @hm @xQ; repeat' (first | refine zS ?_ | refine zI ?_ ?_ | ((with_reducible apply xc); refine zG (xY _) ?_) | ((with_reducible apply xl); refine xi (xY _) ?_) | ((with_reducible apply xc); refine zG (wj s hsz 0 _) ?_) | ((with_reducible apply xl); refine xi (wj s hsz 0 _) ?_) | exact zF0 | refine zD fun hb => ?_ | exact zC | refine zT ?_ | fail))
 all_goals
  (try clear hf)
  first
   | exact fun h => ⟨h, by omega⟩
   | exact fun h => ⟨h, by omega, by omega⟩
   | exact fun h => ⟨h, h, by omega, by omega⟩
   | rw [zj (by (try dsimp only [List.length_nil, List.length_cons]); rw [ha]; omega)]
   | (rw [zP (by (try dsimp only); omega) (by (try dsimp only [List.length_nil, List.length_cons]); rw [ha]; omega) (by (try dsimp only); omega) (by (try dsimp only); omega)]; (try simp only [xG, Int.reduceEq, or_false, false_or, or_true, true_or, or_self, if_true, if_false, ↓reduceIte, Int.reduceLE, decide_true, Bool.true_and]); (try (refine sB ?_; first | rfl | (congr 1; first | rfl | (congr 1; rw [Bool.eq_iff_iff]; simp only [List.length_cons, List.length_nil, decide_eq_true_eq, beq_iff_eq]; omega) | (simp [kidK]; done)) | (rw [Bool.eq_iff_iff]; simp only [Bool.and_eq_true, decide_eq_true_eq, beq_iff_eq]; omega) | (simp; done) | (rw [Bool.eq_iff_iff]; simp; omega))))
theorem nodeOk_4C (p : MProgram) (at_ n : Int) (s : ByteArray) (q : Nat) (l : List Int) (hq : q < p.nodes.length) (hll : l.length <= 1048576) (pats : List MPat) (hpl : pats.length <= 1048576) (hsz : s.size <= maxLen) (f : FuncId) (caps : List D) (hm : PM.md f = []) (nb : Bool) (hf : FCon Tryz.prog f (.ag (MNode.mk 4 at_ n s ((q : Int) :: l) pats).enc :: caps) (fun r _ => r = .s (.bool nb))) :
  FCon Tryz.prog 97 [.ag p.enc, .ag (MNode.mk 4 at_ n s ((q : Int) :: l) pats).enc, .fn f caps] (fun r _ => r = .s (.bool (ya p.nodes ⟨4, at_, n, s, ((q : Int) :: l), pats⟩ nb))) := by
 have ha : arI 4 = -1 := by decide
 rw [MNode.enc_eq] at hf
 have hn := xh MNode.enc p.nodes q hq
 have hne := MNode.enc_eq p.nodes[q]
 have hkk := fun kd => XF (nodes := p.nodes) (l := (q : Int) :: l) (by simp) hq rfl kd
 refine FI PM Tryz.func97 Tryz.ntmps97 [(16, 10, [], [], (lin [] [0, 1, 2, 3, 4, 5, 6, 7, 8, 9])), (18, 3, [], [], (lin [] [0, 1, 2])), (20, 17, [], [], (lin [] [0, 1, 2, 3, 4, 5, 6, 7, 8, 9, 10, 11, 12, 13, 14, 15, 16]))] rfl rfl ?_
 (have hWf := w7 @MNode.enc_eq @MProgram.enc_eq @ha @hm @xQ @hn @hne; repeat' (first | refine zS ?_ | refine zI ?_ ?_ | ((with_reducible apply xc); refine zG (xY _) ?_) | ((with_reducible apply xl); refine xi (xY _) ?_) | ((with_reducible apply xc); refine zG (wj s hsz (l.length + 1) _) ?_) | ((with_reducible apply xl); refine xi (wj s hsz (l.length + 1) _) ?_) | exact zF0 | refine zD fun hb => ?_ | exact zC | refine zT ?_ | fail))
 all_goals
  (try clear hf)
  first
   | exact fun h => ⟨h, by omega⟩
   | exact fun h => ⟨h, by omega, by omega⟩
   | exact fun h => ⟨h, h, by omega, by omega⟩
   | rw [zj (by (try dsimp only [List.length_nil, List.length_cons]); rw [ha]; omega)]
   | (rw [zP (by (try dsimp only); omega) (by (try dsimp only [List.length_nil, List.length_cons]); rw [ha]; omega) (by (try dsimp only); omega) (by (try dsimp only); omega)]; (try simp only [xG, Int.reduceEq, or_false, false_or, or_true, true_or, or_self, if_true, if_false, ↓reduceIte, Int.reduceLE, decide_true, Bool.true_and, hkk]); (try (refine sB ?_; first | rfl | (congr 1; first | rfl | (congr 1; rw [Bool.eq_iff_iff]; simp only [List.length_cons, List.length_nil, decide_eq_true_eq, beq_iff_eq]; omega) | (simp [kidK]; done)) | (rw [Bool.eq_iff_iff]; simp only [Bool.and_eq_true, decide_eq_true_eq, beq_iff_eq]; omega) | (simp; done) | (rw [Bool.eq_iff_iff]; simp; omega))))
theorem nodeOk_8N (p : MProgram) (at_ n : Int) (s : ByteArray) (pats : List MPat) (hpl : pats.length <= 1048576) (hsz : s.size <= maxLen) (f : FuncId) (caps : List D) (hm : PM.md f = []) (nb : Bool) (hf : FCon Tryz.prog f (.ag (MNode.mk 8 at_ n s [] pats).enc :: caps) (fun r _ => r = .s (.bool nb))) :
  FCon Tryz.prog 97 [.ag p.enc, .ag (MNode.mk 8 at_ n s [] pats).enc, .fn f caps] (fun r _ => r = .s (.bool (ya p.nodes ⟨8, at_, n, s, [], pats⟩ nb))) := by
 have ha : arI 8 = 2 := by decide
 rw [MNode.enc_eq] at hf
 refine FI PM Tryz.func97 Tryz.ntmps97 [(16, 10, [], [], (lin [] [0, 1, 2, 3, 4, 5, 6, 7, 8, 9])), (18, 3, [], [], (lin [] [0, 1, 2])), (20, 17, [], [], (lin [] [0, 1, 2, 3, 4, 5, 6, 7, 8, 9, 10, 11, 12, 13, 14, 15, 16]))] rfl rfl ?_
 (have hWf := w5 @MNode.enc_eq @MProgram.enc_eq @ha @hm @xQ; repeat' (first | refine zS ?_ | refine zI ?_ ?_ | ((with_reducible apply xc); refine zG (xY _) ?_) | ((with_reducible apply xl); refine xi (xY _) ?_) | refine zK (hf) ?_ | exact zF0 | refine zD fun hb => ?_ | exact zC | refine zT ?_ | fail))
 all_goals
  (try clear hf)
  first
   | exact fun h => ⟨h, by omega⟩
   | exact fun h => ⟨h, by omega, by omega⟩
   | exact fun h => ⟨h, h, by omega, by omega⟩
   | rw [zj (by (try dsimp only [List.length_nil, List.length_cons]); rw [ha]; omega)]
   | (rw [zP (by (try dsimp only); omega) (by (try dsimp only [List.length_nil, List.length_cons]); rw [ha]; omega) (by (try dsimp only); omega) (by (try dsimp only); omega)]; (try simp only [xG, Int.reduceEq, or_false, false_or, or_true, true_or, or_self, if_true, if_false, ↓reduceIte, Int.reduceLE, decide_true, Bool.true_and]); (try (refine sB ?_; first | rfl | (congr 1; first | rfl | (congr 1; rw [Bool.eq_iff_iff]; simp only [List.length_cons, List.length_nil, decide_eq_true_eq, beq_iff_eq]; omega) | (simp [kidK]; done)) | (rw [Bool.eq_iff_iff]; simp only [Bool.and_eq_true, decide_eq_true_eq, beq_iff_eq]; omega) | (simp; done) | (rw [Bool.eq_iff_iff]; simp; omega))))
theorem nodeOk_8C (p : MProgram) (at_ n : Int) (s : ByteArray) (q : Nat) (l : List Int) (hq : q < p.nodes.length) (hll : l.length <= 1048576) (pats : List MPat) (hpl : pats.length <= 1048576) (hsz : s.size <= maxLen) (f : FuncId) (caps : List D) (hm : PM.md f = []) (nb : Bool) (hf : FCon Tryz.prog f (.ag (MNode.mk 8 at_ n s ((q : Int) :: l) pats).enc :: caps) (fun r _ => r = .s (.bool nb))) :
  FCon Tryz.prog 97 [.ag p.enc, .ag (MNode.mk 8 at_ n s ((q : Int) :: l) pats).enc, .fn f caps] (fun r _ => r = .s (.bool (ya p.nodes ⟨8, at_, n, s, ((q : Int) :: l), pats⟩ nb))) := by
 have ha : arI 8 = 2 := by decide
 rw [MNode.enc_eq] at hf
 have hn := xh MNode.enc p.nodes q hq
 have hne := MNode.enc_eq p.nodes[q]
 have hkk := fun kd => XF (nodes := p.nodes) (l := (q : Int) :: l) (by simp) hq rfl kd
 refine FI PM Tryz.func97 Tryz.ntmps97 [(16, 10, [], [], (lin [] [0, 1, 2, 3, 4, 5, 6, 7, 8, 9])), (18, 3, [], [], (lin [] [0, 1, 2])), (20, 17, [], [], (lin [] [0, 1, 2, 3, 4, 5, 6, 7, 8, 9, 10, 11, 12, 13, 14, 15, 16]))] rfl rfl ?_
 (have hWf := w7 @MNode.enc_eq @MProgram.enc_eq @ha @hm @xQ @hn @hne; repeat' (first | refine zS ?_ | refine zI ?_ ?_ | ((with_reducible apply xc); refine zG (xY _) ?_) | ((with_reducible apply xl); refine xi (xY _) ?_) | refine zK (hf) ?_ | exact zF0 | refine zD fun hb => ?_ | exact zC | refine zT ?_ | fail))
 all_goals
  (try clear hf)
  first
   | exact fun h => ⟨h, by omega⟩
   | exact fun h => ⟨h, by omega, by omega⟩
   | exact fun h => ⟨h, h, by omega, by omega⟩
   | rw [zj (by (try dsimp only [List.length_nil, List.length_cons]); rw [ha]; omega)]
   | (rw [zP (by (try dsimp only); omega) (by (try dsimp only [List.length_nil, List.length_cons]); rw [ha]; omega) (by (try dsimp only); omega) (by (try dsimp only); omega)]; (try simp only [xG, Int.reduceEq, or_false, false_or, or_true, true_or, or_self, if_true, if_false, ↓reduceIte, Int.reduceLE, decide_true, Bool.true_and, hkk]); (try (refine sB ?_; first | rfl | (congr 1; first | rfl | (congr 1; rw [Bool.eq_iff_iff]; simp only [List.length_cons, List.length_nil, decide_eq_true_eq, beq_iff_eq]; omega) | (simp [kidK]; done)) | (rw [Bool.eq_iff_iff]; simp only [Bool.and_eq_true, decide_eq_true_eq, beq_iff_eq]; omega) | (simp; done) | (rw [Bool.eq_iff_iff]; simp; omega))))
theorem nodeOk_X (p : MProgram) (kind : Int) (hkd : kind < 1 \/ 19 < kind) (at_ n : Int) (s : ByteArray) (kids : List Int) (pats : List MPat) (hpl : pats.length <= 1048576) (hsz : s.size <= maxLen) (f : FuncId) (caps : List D) (hm : PM.md f = []) (nb : Bool) (hf : FCon Tryz.prog f (.ag (MNode.mk kind at_ n s kids pats).enc :: caps) (fun r _ => r = .s (.bool nb))) :
  FCon Tryz.prog 97 [.ag p.enc, .ag (MNode.mk kind at_ n s kids pats).enc, .fn f caps] (fun r _ => r = .s (.bool (ya p.nodes ⟨kind, at_, n, s, kids, pats⟩ nb))) := by
 have ha := W3 hkd
 have e1 : (kind == 1) = false := by simp only [beq_eq_false_iff_ne, ne_eq]; omega
 have e2 : (kind == 2) = false := by simp only [beq_eq_false_iff_ne, ne_eq]; omega
 have e3 : (kind == 3) = false := by simp only [beq_eq_false_iff_ne, ne_eq]; omega
 have e4 : (kind == 4) = false := by simp only [beq_eq_false_iff_ne, ne_eq]; omega
 have e5 : (kind == 5) = false := by simp only [beq_eq_false_iff_ne, ne_eq]; omega
 have e6 : (kind == 6) = false := by simp only [beq_eq_false_iff_ne, ne_eq]; omega
 have e7 : (kind == 7) = false := by simp only [beq_eq_false_iff_ne, ne_eq]; omega
 have e8 : (kind == 8) = false := by simp only [beq_eq_false_iff_ne, ne_eq]; omega
 have e9 : (kind == 9) = false := by simp only [beq_eq_false_iff_ne, ne_eq]; omega
 have e10 : (kind == 10) = false := by simp only [beq_eq_false_iff_ne, ne_eq]; omega
 have e11 : (kind == 11) = false := by simp only [beq_eq_false_iff_ne, ne_eq]; omega
 have e12 : (kind == 12) = false := by simp only [beq_eq_false_iff_ne, ne_eq]; omega
 have e13 : (kind == 13) = false := by simp only [beq_eq_false_iff_ne, ne_eq]; omega
 have e14 : (kind == 14) = false := by simp only [beq_eq_false_iff_ne, ne_eq]; omega
 have e15 : (kind == 15) = false := by simp only [beq_eq_false_iff_ne, ne_eq]; omega
 have e16 : (kind == 16) = false := by simp only [beq_eq_false_iff_ne, ne_eq]; omega
 have e17 : (kind == 17) = false := by simp only [beq_eq_false_iff_ne, ne_eq]; omega
 have e18 : (kind == 18) = false := by simp only [beq_eq_false_iff_ne, ne_eq]; omega
 have e19 : (kind == 19) = false := by simp only [beq_eq_false_iff_ne, ne_eq]; omega
 have n1 : (kind != 1) = true := by simp only [bne_iff_ne, ne_eq]; omega
 have n3 : (kind != 3) = true := by simp only [bne_iff_ne, ne_eq]; omega
 have n13 : (kind != 13) = true := by simp only [bne_iff_ne, ne_eq]; omega
 have m1 : (kind = 1) = False := by rw [eq_iff_iff, iff_false]; omega
 have m2 : (kind = 2) = False := by rw [eq_iff_iff, iff_false]; omega
 have m3 : (kind = 3) = False := by rw [eq_iff_iff, iff_false]; omega
 have m4 : (kind = 4) = False := by rw [eq_iff_iff, iff_false]; omega
 have m5 : (kind = 5) = False := by rw [eq_iff_iff, iff_false]; omega
 have m6 : (kind = 6) = False := by rw [eq_iff_iff, iff_false]; omega
 have m7 : (kind = 7) = False := by rw [eq_iff_iff, iff_false]; omega
 have m8 : (kind = 8) = False := by rw [eq_iff_iff, iff_false]; omega
 have m9 : (kind = 9) = False := by rw [eq_iff_iff, iff_false]; omega
 have m10 : (kind = 10) = False := by rw [eq_iff_iff, iff_false]; omega
 have m11 : (kind = 11) = False := by rw [eq_iff_iff, iff_false]; omega
 have m12 : (kind = 12) = False := by rw [eq_iff_iff, iff_false]; omega
 have m13 : (kind = 13) = False := by rw [eq_iff_iff, iff_false]; omega
 have m14 : (kind = 14) = False := by rw [eq_iff_iff, iff_false]; omega
 have m15 : (kind = 15) = False := by rw [eq_iff_iff, iff_false]; omega
 have m16 : (kind = 16) = False := by rw [eq_iff_iff, iff_false]; omega
 have m17 : (kind = 17) = False := by rw [eq_iff_iff, iff_false]; omega
 have m18 : (kind = 18) = False := by rw [eq_iff_iff, iff_false]; omega
 have m19 : (kind = 19) = False := by rw [eq_iff_iff, iff_false]; omega
 have g : ya p.nodes ⟨kind, at_, n, s, kids, pats⟩ nb = false := by
  have g : xG p.nodes ⟨kind, at_, n, s, kids, pats⟩ nb = false := by
   unfold xG
   simp only [m1, m2, m3, m4, m5, m6, m7, m8, m9, m10, m11, m12, m13, m14, m15, m16, m17, m18, m19, or_self, if_false]
   rcases hkd with q | q
   ·rw [decide_eq_false (by omega : ¬ 1 <= kind)]; rfl
   ·rw [decide_eq_false (by omega : ¬ kind <= 19)]; simp
  unfold ya
  rw [g]; simp
 rw [g]
 refine FI PM Tryz.func97 Tryz.ntmps97 [(16, 10, [], [], (lin [] [0, 1, 2, 3, 4, 5, 6, 7, 8, 9])), (18, 3, [], [], (lin [] [0, 1, 2])), (20, 17, [], [], (lin [] [0, 1, 2, 3, 4, 5, 6, 7, 8, 9, 10, 11, 12, 13, 14, 15, 16]))] rfl rfl ?_
 (have hWf := w26 @MNode.enc_eq @MProgram.enc_eq @ha @hm @e1 @e2 @e3 @e4 @e5 @e6 @e7 @e8 @e9 @e10 @e11 @e12 @e13 @e14 @e15 @e16 @e17 @e18 @e19 @n1 @n3 @n13; repeat' (first | refine zS ?_ | refine zI ?_ ?_ | ((with_reducible apply xc); refine zG (xY _) ?_) | ((with_reducible apply xl); refine xi (xY _) ?_) | exact zF0 | refine zD fun hb => ?_ | exact zC | refine zT ?_ | fail))
theorem c_nodeOk (p : MProgram) (x : MNode) (ho : x.ok) (hs : x.pats.length <= 1048576) (hkl : x.kids.length <= 1048576) (f : FuncId) (caps : List D) (hm : PM.md f = []) (nb : Bool) (hf : FCon Tryz.prog f (.ag x.enc :: caps) (fun r _ => r = .s (.bool nb))) (hk : ∀ h : 0 < x.kids.length, ∃ q : Nat, x.kids[0] = (q : Int) /\ q < p.nodes.length) :
  FCon Tryz.prog 97 [.ag p.enc, .ag x.enc, .fn f caps] (fun r _ => r = .s (.bool (ya p.nodes x nb))) := by
 obtain ⟨kind, at_, n, s, kids, pats⟩ := x
 obtain ⟨o1, o2, o3, o4, o5, o6⟩ := ho
 have hsz : s.size <= maxLen := o4
 by_cases hkd : kind < 1 \/ 19 < kind
 ·exact nodeOk_X p kind hkd at_ n s kids pats hs hsz f caps hm nb hf
 rcases (show kind = 1 \/ kind = 2 \/ kind = 3 \/ kind = 4 \/ kind = 5 \/ kind = 6 \/ kind = 7 \/ kind = 8 \/ kind = 9 \/ kind = 10 \/ kind = 11 \/ kind = 12 \/ kind = 13 \/ kind = 14 \/ kind = 15 \/ kind = 16 \/ kind = 17 \/ kind = 18 \/ kind = 19 by omega) with rfl | rfl | rfl | rfl | rfl | rfl | rfl | rfl | rfl | rfl | rfl | rfl | rfl | rfl | rfl | rfl | rfl | rfl | rfl
 ·exact Z1 p 1 (.inl ⟨rfl, by decide⟩) at_ n s kids pats hs hsz f caps hm nb hf
 ·exact Z1 p 2 (.inr (.inl ⟨rfl, by decide⟩)) at_ n s kids pats hs hsz f caps hm nb hf
 ·exact Z1 p 3 (.inr (.inr (⟨rfl, by decide⟩))) at_ n s kids pats hs hsz f caps hm nb hf
 ·cases kids with
  | nil => exact nodeOk_4N p at_ n s pats hs hsz f caps hm nb hf
  | cons z l =>
   obtain ⟨q, hz, hq⟩ := hk (by simp)
   have hz : z = (q : Int) := hz
   subst hz
   exact nodeOk_4C p at_ n s q l hq (by simp at hkl; omega) pats hs hsz f caps hm nb hf
 ·exact Z2 p 5 (.inl ⟨rfl, by decide⟩) at_ n s kids pats hs hsz f caps hm nb hf
 ·exact Z3 p 6 (.inl ⟨rfl, by decide⟩) at_ n s kids pats hs hsz f caps hm nb hf
 ·exact Z2 p 7 (.inr (.inl ⟨rfl, by decide⟩)) at_ n s kids pats hs hsz f caps hm nb hf
 ·cases kids with
  | nil => exact nodeOk_8N p at_ n s pats hs hsz f caps hm nb hf
  | cons z l =>
   obtain ⟨q, hz, hq⟩ := hk (by simp)
   have hz : z = (q : Int) := hz
   subst hz
   exact nodeOk_8C p at_ n s q l hq (by simp at hkl; omega) pats hs hsz f caps hm nb hf
 ·exact Z3 p 9 (.inr (.inl ⟨rfl, by decide⟩)) at_ n s kids pats hs hsz f caps hm nb hf
 ·exact Z3 p 10 (.inr (.inr (⟨rfl, by decide⟩))) at_ n s kids pats hs hsz f caps hm nb hf
 ·exact Z4 p 11 (.inl ⟨rfl, by decide⟩) at_ n s kids pats hs hsz f caps hm nb hf
 ·exact Z4 p 12 (.inr (.inl ⟨rfl, by decide⟩)) at_ n s kids pats hs hsz f caps hm nb hf
 ·exact Z4 p 13 (.inr (.inr (⟨rfl, by decide⟩))) at_ n s kids pats hs hsz f caps hm nb hf
 ·exact Z5 p 14 (.inl ⟨rfl, by decide⟩) at_ n s kids pats hs hsz f caps hm nb hf
 ·exact Z2 p 15 (.inr (.inr (⟨rfl, by decide⟩))) at_ n s kids pats hs hsz f caps hm nb hf
 ·exact Z5 p 16 (.inr (.inl ⟨rfl, by decide⟩)) at_ n s kids pats hs hsz f caps hm nb hf
 ·exact Z5 p 17 (.inr (.inr (⟨rfl, by decide⟩))) at_ n s kids pats hs hsz f caps hm nb hf
 ·exact VV p 18 (.inl ⟨rfl, by decide⟩) at_ n s kids pats hs hsz f caps hm nb hf
 ·exact VV p 19 (.inr (⟨rfl, by decide⟩)) at_ n s kids pats hs hsz f caps hm nb hf
theorem xI {nodes : List MNode} {x : MNode} : xO nodes x = true ↔ inB nodes x.kids = true /\ 0 <= x.at_ /\ (arI x.kind < 0 \/ (x.kids.length : Int) = arI x.kind) /\ (x.kind = 13 \/ (x.pats.length : Int) = 0) /\ (x.kind = 1 \/ x.kind = 3 \/ x.n = 0) /\ xG nodes x (xT x) = true /\ (x.pats.all fun q => patM q.nodes) = true := by
 unfold xO ya
 simp only [Bool.and_eq_true, Bool.or_eq_true, decide_eq_true_eq]
 constructor
 ·rintro ⟨⟨h1, ⟨⟨⟨h2, h3⟩, h4⟩, h5⟩, h6⟩, h7⟩
  exact ⟨h1, h2, h3, h4.imp id (fun q => by omega), by omega, h6, h7⟩
 ·rintro ⟨h1, h2, h3, h4, h5, h6, h7⟩
  exact ⟨⟨h1, ⟨⟨⟨h2, h3⟩, h4.imp id (fun q => by omega)⟩, by omega⟩, h6⟩, h7⟩
theorem pats0 {l : List MPat} (h : (l.length : Int) = 0) : (l.all fun q => patM q.nodes) = true := by
 have : l = [] := List.eq_nil_of_length_eq_zero (by omega)
 rw [this]; rfl
theorem wL {nodes : List MNode} {l : List Int} {k : Nat} (h : k < l.length) (hb : l[k] < 0 \/ (nodes.length : Int) <= l[k]) : inB nodes l = false := by
 refine y9 h ?_
 rcases hb with q | q
 ·rw [decide_eq_false (by omega)]; rfl
 ·rw [decide_eq_false (by omega : ¬ l[k] < (nodes.length : Int))]; simp
theorem wM {nodes : List MNode} {x : Int} (h1 : 0 <= x) (h2 : x < (nodes.length : Int)) : (decide (0 <= x) && decide (x < (nodes.length : Int))) = true := by
 rw [decide_eq_true h1, decide_eq_true h2]; rfl
theorem YL (p : MProgram) (kind : Int) (hkd : (kind = 1 /\ arI kind = 0) \/ (kind = 2 /\ arI kind = 0) \/ (kind = 3 /\ arI kind = 0)) (at_ n : Int) (s : ByteArray) (kids : List Int) (pats : List MPat) (hkl : kids.length <= 1048576) (hpl : pats.length <= 1048576) (hsz : s.size <= maxLen) (hop : ∀ q ∈ pats, q.ok) (hsp : smS MPat.sm pats) :
  FCon Tryz.prog 49 [.ag p.enc, .ag (MNode.mk kind at_ n s kids pats).enc] (fun r _ => r = .s (.bool (xO p.nodes ⟨kind, at_, n, s, kids, pats⟩))) := by
 obtain ⟨k0, hk0⟩ : ∃ k0 : Int, k0 = kind := ⟨_, rfl⟩
 rcases hkd with ⟨rfl, ha⟩ | ⟨rfl, ha⟩ | ⟨rfl, ha⟩
 all_goals
  refine FI (PMr [15, 24]) Tryz.func49 Tryz.ntmps49 [(15, 26, [], [], (lin [] [0, 1, 2, 3, 4, 5, 6, 7, 8, 9, 10, 11, 12, 13, 14, 15, 16, 17, 18, 19, 20, 21, 22, 23, 24, 25])), (24, 15, [], [], (lin [] [0, 1, 2, 3, 4, 5, 6, 7, 8, 9, 10, 11, 12, 13, 14])), (26, 11, [], [], (lin [] [0, 1, 2, 3, 4, 5, 6, 7, 8, 9, 10]))] rfl rfl ?_
  (have hWf := w3 @MNode.enc_eq @MProgram.enc_eq @ha; repeat' (first | refine zS ?_ | refine zI ?_ ?_ | exact zF0 | refine zD fun hb => ?_ | exact zC | refine zT ?_ | fail))
  all_goals first
  | (
    (try clear hop hsp)
    (try clear hK)
    refine sB ?_
    rw [Bool.eq_iff_iff, xI]
    have hpa0 := @pats0 pats
    simp only [xG, ha, xT] at *
    first | (simp_all; done) | grind | (constructor <;> intro hh <;> grind))
  | (refine xk (fun m σ => ∃ j : Nat, j <= kids.length /\ m = kids.length - j /\ σ.t 2 = .bx 2 0 /\ σ.t 3 = .bx 3 0 /\ σ.b 2 = some (.box [.sl 3 (p.types.map MType.enc), .sl 6 (p.nodes.map MNode.enc)]) /\ σ.b 3 = some (.box [.s (.int .i64 k0), .s (.int .i64 at_), .s (.int .i64 n), .s (.string s), yX kids, .sl 1 (pats.map MPat.enc)]) /\
     σ.t 44 = yX kids /\ σ.t 45 = .s (.int .i64 kids.length) /\ σ.t 46 = .s (.int .i64 j) /\ ∀ x ∈ kids.take j, (decide (0 <= x) && decide (x < (p.nodes.length : Int))) = true) kids.length ⟨0, by omega, by omega, ?_⟩ ?_
     ·simp only [go_sem, simprocAttr, Int.natCast_zero, hk0]
      all_goals simp
     ·rintro m σ ⟨j, hj, rfl, g2, g3, gb2, gb3, g44, g45, g46, hno⟩ K' hK
      by_cases hlt : j < kids.length
      ·have hx := xh iE kids j hlt
       (have hWf := w10 @hk0 @g2 @g3 @gb2 @gb3 @g44 @g45 @g46 @hx @xQ; repeat' (first | refine zS ?_ | refine zI ?_ ?_ | exact zF0 | refine zD fun hb => ?_ | exact zC | refine zT ?_ | fail))
       ·refine sB ?_
        unfold xO
        rw [wL hlt hb]; rfl
       ·refine hK (kids.length - (j + 1)) _ (by omega) ⟨j + 1, by omega, rfl, ?_⟩
        simp only [go_sem, simprocAttr, g2, g3, gb2, gb3, g44, g45, Int.natCast_succ]
        exact xL hlt hno (wM (by omega) (by omega))
      ·obtain rfl : j = kids.length := by omega
       have hin : inB p.nodes kids = true := x6 hno
       clear hno hK
       (have hWf := w8 @hk0 @g2 @g3 @gb2 @gb3 @g44 @g45 @g46; repeat' (first | refine zS ?_ | refine zI ?_ ?_ | ((with_reducible apply xc); refine zG (xU _) ?_) | ((with_reducible apply xl); refine xi (xU _) ?_) | refine zK (xr s hsz) ?_ | refine zK (ul s) ?_ | exact zF0 | refine zD fun hb => ?_ | exact zC | refine zT ?_ | fail))
       all_goals
        (try clear hop hsp)
        (try clear hK)
        refine sB ?_
        rw [Bool.eq_iff_iff, xI]
        have hpa0 := @pats0 pats
        simp only [xG, ha, xT] at *
        first | (simp_all; done) | grind | (constructor <;> intro hh <;> grind))
theorem YM (p : MProgram) (kind : Int) (hkd : (kind = 5 /\ arI kind = 1) \/ (kind = 7 /\ arI kind = 2) \/ (kind = 15 /\ arI kind = 2)) (at_ n : Int) (s : ByteArray) (kids : List Int) (pats : List MPat) (hkl : kids.length <= 1048576) (hpl : pats.length <= 1048576) (hsz : s.size <= maxLen) (hop : ∀ q ∈ pats, q.ok) (hsp : smS MPat.sm pats) :
  FCon Tryz.prog 49 [.ag p.enc, .ag (MNode.mk kind at_ n s kids pats).enc] (fun r _ => r = .s (.bool (xO p.nodes ⟨kind, at_, n, s, kids, pats⟩))) := by
 obtain ⟨k0, hk0⟩ : ∃ k0 : Int, k0 = kind := ⟨_, rfl⟩
 rcases hkd with ⟨rfl, ha⟩ | ⟨rfl, ha⟩ | ⟨rfl, ha⟩
 all_goals
  refine FI (PMr [15, 24]) Tryz.func49 Tryz.ntmps49 [(15, 26, [], [], (lin [] [0, 1, 2, 3, 4, 5, 6, 7, 8, 9, 10, 11, 12, 13, 14, 15, 16, 17, 18, 19, 20, 21, 22, 23, 24, 25])), (24, 15, [], [], (lin [] [0, 1, 2, 3, 4, 5, 6, 7, 8, 9, 10, 11, 12, 13, 14])), (26, 11, [], [], (lin [] [0, 1, 2, 3, 4, 5, 6, 7, 8, 9, 10]))] rfl rfl ?_
  (have hWf := w3 @MNode.enc_eq @MProgram.enc_eq @ha; repeat' (first | refine zS ?_ | refine zI ?_ ?_ | exact zF0 | refine zD fun hb => ?_ | exact zC | refine zT ?_ | fail))
  all_goals first
  | (
    (try clear hop hsp)
    (try clear hK)
    refine sB ?_
    rw [Bool.eq_iff_iff, xI]
    have hpa0 := @pats0 pats
    simp only [xG, ha, xT] at *
    first | (simp_all; done) | grind | (constructor <;> intro hh <;> grind))
  | (refine xk (fun m σ => ∃ j : Nat, j <= kids.length /\ m = kids.length - j /\ σ.t 2 = .bx 2 0 /\ σ.t 3 = .bx 3 0 /\ σ.b 2 = some (.box [.sl 3 (p.types.map MType.enc), .sl 6 (p.nodes.map MNode.enc)]) /\ σ.b 3 = some (.box [.s (.int .i64 k0), .s (.int .i64 at_), .s (.int .i64 n), .s (.string s), yX kids, .sl 1 (pats.map MPat.enc)]) /\
     σ.t 44 = yX kids /\ σ.t 45 = .s (.int .i64 kids.length) /\ σ.t 46 = .s (.int .i64 j) /\ ∀ x ∈ kids.take j, (decide (0 <= x) && decide (x < (p.nodes.length : Int))) = true) kids.length ⟨0, by omega, by omega, ?_⟩ ?_
     ·simp only [go_sem, simprocAttr, Int.natCast_zero, hk0]
      all_goals simp
     ·rintro m σ ⟨j, hj, rfl, g2, g3, gb2, gb3, g44, g45, g46, hno⟩ K' hK
      by_cases hlt : j < kids.length
      ·have hx := xh iE kids j hlt
       (have hWf := w10 @hk0 @g2 @g3 @gb2 @gb3 @g44 @g45 @g46 @hx @xQ; repeat' (first | refine zS ?_ | refine zI ?_ ?_ | exact zF0 | refine zD fun hb => ?_ | exact zC | refine zT ?_ | fail))
       ·refine sB ?_
        unfold xO
        rw [wL hlt hb]; rfl
       ·refine hK (kids.length - (j + 1)) _ (by omega) ⟨j + 1, by omega, rfl, ?_⟩
        simp only [go_sem, simprocAttr, g2, g3, gb2, gb3, g44, g45, Int.natCast_succ]
        exact xL hlt hno (wM (by omega) (by omega))
      ·obtain rfl : j = kids.length := by omega
       have hin : inB p.nodes kids = true := x6 hno
       clear hno hK
       (have hWf := w8 @hk0 @g2 @g3 @gb2 @gb3 @g44 @g45 @g46; repeat' (first | refine zS ?_ | refine zI ?_ ?_ | ((with_reducible apply xc); refine zG (xU _) ?_) | ((with_reducible apply xl); refine xi (xU _) ?_) | refine zK (xr s hsz) ?_ | refine zK (ul s) ?_ | exact zF0 | refine zD fun hb => ?_ | exact zC | refine zT ?_ | fail))
       all_goals
        (try clear hop hsp)
        (try clear hK)
        refine sB ?_
        rw [Bool.eq_iff_iff, xI]
        have hpa0 := @pats0 pats
        simp only [xG, ha, xT] at *
        first | (simp_all; done) | grind | (constructor <;> intro hh <;> grind))
theorem YN (p : MProgram) (kind : Int) (hkd : (kind = 6 /\ arI kind = 2) \/ (kind = 9 /\ arI kind = 3) \/ (kind = 10 /\ arI kind = 2)) (at_ n : Int) (s : ByteArray) (kids : List Int) (pats : List MPat) (hkl : kids.length <= 1048576) (hpl : pats.length <= 1048576) (hsz : s.size <= maxLen) (hop : ∀ q ∈ pats, q.ok) (hsp : smS MPat.sm pats) :
  FCon Tryz.prog 49 [.ag p.enc, .ag (MNode.mk kind at_ n s kids pats).enc] (fun r _ => r = .s (.bool (xO p.nodes ⟨kind, at_, n, s, kids, pats⟩))) := by
 obtain ⟨k0, hk0⟩ : ∃ k0 : Int, k0 = kind := ⟨_, rfl⟩
 rcases hkd with ⟨rfl, ha⟩ | ⟨rfl, ha⟩ | ⟨rfl, ha⟩
 all_goals
  refine FI (PMr [15, 24]) Tryz.func49 Tryz.ntmps49 [(15, 26, [], [], (lin [] [0, 1, 2, 3, 4, 5, 6, 7, 8, 9, 10, 11, 12, 13, 14, 15, 16, 17, 18, 19, 20, 21, 22, 23, 24, 25])), (24, 15, [], [], (lin [] [0, 1, 2, 3, 4, 5, 6, 7, 8, 9, 10, 11, 12, 13, 14])), (26, 11, [], [], (lin [] [0, 1, 2, 3, 4, 5, 6, 7, 8, 9, 10]))] rfl rfl ?_
  (have hWf := w3 @MNode.enc_eq @MProgram.enc_eq @ha; repeat' (first | refine zS ?_ | refine zI ?_ ?_ | exact zF0 | refine zD fun hb => ?_ | exact zC | refine zT ?_ | fail))
  all_goals first
  | (
    (try clear hop hsp)
    (try clear hK)
    refine sB ?_
    rw [Bool.eq_iff_iff, xI]
    have hpa0 := @pats0 pats
    simp only [xG, ha, xT] at *
    first | (simp_all; done) | grind | (constructor <;> intro hh <;> grind))
  | (refine xk (fun m σ => ∃ j : Nat, j <= kids.length /\ m = kids.length - j /\ σ.t 2 = .bx 2 0 /\ σ.t 3 = .bx 3 0 /\ σ.b 2 = some (.box [.sl 3 (p.types.map MType.enc), .sl 6 (p.nodes.map MNode.enc)]) /\ σ.b 3 = some (.box [.s (.int .i64 k0), .s (.int .i64 at_), .s (.int .i64 n), .s (.string s), yX kids, .sl 1 (pats.map MPat.enc)]) /\
     σ.t 44 = yX kids /\ σ.t 45 = .s (.int .i64 kids.length) /\ σ.t 46 = .s (.int .i64 j) /\ ∀ x ∈ kids.take j, (decide (0 <= x) && decide (x < (p.nodes.length : Int))) = true) kids.length ⟨0, by omega, by omega, ?_⟩ ?_
     ·simp only [go_sem, simprocAttr, Int.natCast_zero, hk0]
      all_goals simp
     ·rintro m σ ⟨j, hj, rfl, g2, g3, gb2, gb3, g44, g45, g46, hno⟩ K' hK
      by_cases hlt : j < kids.length
      ·have hx := xh iE kids j hlt
       (have hWf := w10 @hk0 @g2 @g3 @gb2 @gb3 @g44 @g45 @g46 @hx @xQ; repeat' (first | refine zS ?_ | refine zI ?_ ?_ | exact zF0 | refine zD fun hb => ?_ | exact zC | refine zT ?_ | fail))
       ·refine sB ?_
        unfold xO
        rw [wL hlt hb]; rfl
       ·refine hK (kids.length - (j + 1)) _ (by omega) ⟨j + 1, by omega, rfl, ?_⟩
        simp only [go_sem, simprocAttr, g2, g3, gb2, gb3, g44, g45, Int.natCast_succ]
        exact xL hlt hno (wM (by omega) (by omega))
      ·obtain rfl : j = kids.length := by omega
       have hin : inB p.nodes kids = true := x6 hno
       clear hno hK
       (have hWf := w8 @hk0 @g2 @g3 @gb2 @gb3 @g44 @g45 @g46; repeat' (first | refine zS ?_ | refine zI ?_ ?_ | ((with_reducible apply xc); refine zG (xU _) ?_) | ((with_reducible apply xl); refine xi (xU _) ?_) | refine zK (xr s hsz) ?_ | refine zK (ul s) ?_ | exact zF0 | refine zD fun hb => ?_ | exact zC | refine zT ?_ | fail))
       all_goals
        (try clear hop hsp)
        (try clear hK)
        refine sB ?_
        rw [Bool.eq_iff_iff, xI]
        have hpa0 := @pats0 pats
        simp only [xG, ha, xT] at *
        first | (simp_all; done) | grind | (constructor <;> intro hh <;> grind))
theorem YO (p : MProgram) (kind : Int) (hkd : (kind = 11 /\ arI kind = 2) \/ (kind = 12 /\ arI kind = 0) \/ (kind = 14 /\ arI kind = 1)) (at_ n : Int) (s : ByteArray) (kids : List Int) (pats : List MPat) (hkl : kids.length <= 1048576) (hpl : pats.length <= 1048576) (hsz : s.size <= maxLen) (hop : ∀ q ∈ pats, q.ok) (hsp : smS MPat.sm pats) :
  FCon Tryz.prog 49 [.ag p.enc, .ag (MNode.mk kind at_ n s kids pats).enc] (fun r _ => r = .s (.bool (xO p.nodes ⟨kind, at_, n, s, kids, pats⟩))) := by
 obtain ⟨k0, hk0⟩ : ∃ k0 : Int, k0 = kind := ⟨_, rfl⟩
 rcases hkd with ⟨rfl, ha⟩ | ⟨rfl, ha⟩ | ⟨rfl, ha⟩
 all_goals
  refine FI (PMr [15, 24]) Tryz.func49 Tryz.ntmps49 [(15, 26, [], [], (lin [] [0, 1, 2, 3, 4, 5, 6, 7, 8, 9, 10, 11, 12, 13, 14, 15, 16, 17, 18, 19, 20, 21, 22, 23, 24, 25])), (24, 15, [], [], (lin [] [0, 1, 2, 3, 4, 5, 6, 7, 8, 9, 10, 11, 12, 13, 14])), (26, 11, [], [], (lin [] [0, 1, 2, 3, 4, 5, 6, 7, 8, 9, 10]))] rfl rfl ?_
  (have hWf := w3 @MNode.enc_eq @MProgram.enc_eq @ha; repeat' (first | refine zS ?_ | refine zI ?_ ?_ | exact zF0 | refine zD fun hb => ?_ | exact zC | refine zT ?_ | fail))
  all_goals first
  | (
    (try clear hop hsp)
    (try clear hK)
    refine sB ?_
    rw [Bool.eq_iff_iff, xI]
    have hpa0 := @pats0 pats
    simp only [xG, ha, xT] at *
    first | (simp_all; done) | grind | (constructor <;> intro hh <;> grind))
  | (refine xk (fun m σ => ∃ j : Nat, j <= kids.length /\ m = kids.length - j /\ σ.t 2 = .bx 2 0 /\ σ.t 3 = .bx 3 0 /\ σ.b 2 = some (.box [.sl 3 (p.types.map MType.enc), .sl 6 (p.nodes.map MNode.enc)]) /\ σ.b 3 = some (.box [.s (.int .i64 k0), .s (.int .i64 at_), .s (.int .i64 n), .s (.string s), yX kids, .sl 1 (pats.map MPat.enc)]) /\
     σ.t 44 = yX kids /\ σ.t 45 = .s (.int .i64 kids.length) /\ σ.t 46 = .s (.int .i64 j) /\ ∀ x ∈ kids.take j, (decide (0 <= x) && decide (x < (p.nodes.length : Int))) = true) kids.length ⟨0, by omega, by omega, ?_⟩ ?_
     ·simp only [go_sem, simprocAttr, Int.natCast_zero, hk0]
      all_goals simp
     ·rintro m σ ⟨j, hj, rfl, g2, g3, gb2, gb3, g44, g45, g46, hno⟩ K' hK
      by_cases hlt : j < kids.length
      ·have hx := xh iE kids j hlt
       (have hWf := w10 @hk0 @g2 @g3 @gb2 @gb3 @g44 @g45 @g46 @hx @xQ; repeat' (first | refine zS ?_ | refine zI ?_ ?_ | exact zF0 | refine zD fun hb => ?_ | exact zC | refine zT ?_ | fail))
       ·refine sB ?_
        unfold xO
        rw [wL hlt hb]; rfl
       ·refine hK (kids.length - (j + 1)) _ (by omega) ⟨j + 1, by omega, rfl, ?_⟩
        simp only [go_sem, simprocAttr, g2, g3, gb2, gb3, g44, g45, Int.natCast_succ]
        exact xL hlt hno (wM (by omega) (by omega))
      ·obtain rfl : j = kids.length := by omega
       have hin : inB p.nodes kids = true := x6 hno
       clear hno hK
       (have hWf := w8 @hk0 @g2 @g3 @gb2 @gb3 @g44 @g45 @g46; repeat' (first | refine zS ?_ | refine zI ?_ ?_ | ((with_reducible apply xc); refine zG (xU _) ?_) | ((with_reducible apply xl); refine xi (xU _) ?_) | refine zK (xr s hsz) ?_ | refine zK (ul s) ?_ | exact zF0 | refine zD fun hb => ?_ | exact zC | refine zT ?_ | fail))
       all_goals
        (try clear hop hsp)
        (try clear hK)
        refine sB ?_
        rw [Bool.eq_iff_iff, xI]
        have hpa0 := @pats0 pats
        simp only [xG, ha, xT] at *
        first | (simp_all; done) | grind | (constructor <;> intro hh <;> grind))
theorem UV (p : MProgram) (kind : Int) (hkd : (kind = 16 /\ arI kind = 1) \/ (kind = 17 /\ arI kind = 1)) (at_ n : Int) (s : ByteArray) (kids : List Int) (pats : List MPat) (hkl : kids.length <= 1048576) (hpl : pats.length <= 1048576) (hsz : s.size <= maxLen) (hop : ∀ q ∈ pats, q.ok) (hsp : smS MPat.sm pats) :
  FCon Tryz.prog 49 [.ag p.enc, .ag (MNode.mk kind at_ n s kids pats).enc] (fun r _ => r = .s (.bool (xO p.nodes ⟨kind, at_, n, s, kids, pats⟩))) := by
 obtain ⟨k0, hk0⟩ : ∃ k0 : Int, k0 = kind := ⟨_, rfl⟩
 rcases hkd with ⟨rfl, ha⟩ | ⟨rfl, ha⟩
 all_goals
  refine FI (PMr [15, 24]) Tryz.func49 Tryz.ntmps49 [(15, 26, [], [], (lin [] [0, 1, 2, 3, 4, 5, 6, 7, 8, 9, 10, 11, 12, 13, 14, 15, 16, 17, 18, 19, 20, 21, 22, 23, 24, 25])), (24, 15, [], [], (lin [] [0, 1, 2, 3, 4, 5, 6, 7, 8, 9, 10, 11, 12, 13, 14])), (26, 11, [], [], (lin [] [0, 1, 2, 3, 4, 5, 6, 7, 8, 9, 10]))] rfl rfl ?_
  (have hWf := w3 @MNode.enc_eq @MProgram.enc_eq @ha; repeat' (first | refine zS ?_ | refine zI ?_ ?_ | exact zF0 | refine zD fun hb => ?_ | exact zC | refine zT ?_ | fail))
  all_goals first
  | (
    (try clear hop hsp)
    (try clear hK)
    refine sB ?_
    rw [Bool.eq_iff_iff, xI]
    have hpa0 := @pats0 pats
    simp only [xG, ha, xT] at *
    first | (simp_all; done) | grind | (constructor <;> intro hh <;> grind))
  | (refine xk (fun m σ => ∃ j : Nat, j <= kids.length /\ m = kids.length - j /\ σ.t 2 = .bx 2 0 /\ σ.t 3 = .bx 3 0 /\ σ.b 2 = some (.box [.sl 3 (p.types.map MType.enc), .sl 6 (p.nodes.map MNode.enc)]) /\ σ.b 3 = some (.box [.s (.int .i64 k0), .s (.int .i64 at_), .s (.int .i64 n), .s (.string s), yX kids, .sl 1 (pats.map MPat.enc)]) /\
     σ.t 44 = yX kids /\ σ.t 45 = .s (.int .i64 kids.length) /\ σ.t 46 = .s (.int .i64 j) /\ ∀ x ∈ kids.take j, (decide (0 <= x) && decide (x < (p.nodes.length : Int))) = true) kids.length ⟨0, by omega, by omega, ?_⟩ ?_
     ·simp only [go_sem, simprocAttr, Int.natCast_zero, hk0]
      all_goals simp
     ·rintro m σ ⟨j, hj, rfl, g2, g3, gb2, gb3, g44, g45, g46, hno⟩ K' hK
      by_cases hlt : j < kids.length
      ·have hx := xh iE kids j hlt
       (have hWf := w10 @hk0 @g2 @g3 @gb2 @gb3 @g44 @g45 @g46 @hx @xQ; repeat' (first | refine zS ?_ | refine zI ?_ ?_ | exact zF0 | refine zD fun hb => ?_ | exact zC | refine zT ?_ | fail))
       ·refine sB ?_
        unfold xO
        rw [wL hlt hb]; rfl
       ·refine hK (kids.length - (j + 1)) _ (by omega) ⟨j + 1, by omega, rfl, ?_⟩
        simp only [go_sem, simprocAttr, g2, g3, gb2, gb3, g44, g45, Int.natCast_succ]
        exact xL hlt hno (wM (by omega) (by omega))
      ·obtain rfl : j = kids.length := by omega
       have hin : inB p.nodes kids = true := x6 hno
       clear hno hK
       (have hWf := w8 @hk0 @g2 @g3 @gb2 @gb3 @g44 @g45 @g46; repeat' (first | refine zS ?_ | refine zI ?_ ?_ | ((with_reducible apply xc); refine zG (xU _) ?_) | ((with_reducible apply xl); refine xi (xU _) ?_) | refine zK (xr s hsz) ?_ | refine zK (ul s) ?_ | exact zF0 | refine zD fun hb => ?_ | exact zC | refine zT ?_ | fail))
       all_goals
        (try clear hop hsp)
        (try clear hK)
        refine sB ?_
        rw [Bool.eq_iff_iff, xI]
        have hpa0 := @pats0 pats
        simp only [xG, ha, xT] at *
        first | (simp_all; done) | grind | (constructor <;> intro hh <;> grind))
theorem UW (p : MProgram) (kind : Int) (hkd : (kind = 18 /\ arI kind = 2) \/ (kind = 19 /\ arI kind = 2)) (at_ n : Int) (s : ByteArray) (kids : List Int) (pats : List MPat) (hkl : kids.length <= 1048576) (hpl : pats.length <= 1048576) (hsz : s.size <= maxLen) (hop : ∀ q ∈ pats, q.ok) (hsp : smS MPat.sm pats) :
  FCon Tryz.prog 49 [.ag p.enc, .ag (MNode.mk kind at_ n s kids pats).enc] (fun r _ => r = .s (.bool (xO p.nodes ⟨kind, at_, n, s, kids, pats⟩))) := by
 obtain ⟨k0, hk0⟩ : ∃ k0 : Int, k0 = kind := ⟨_, rfl⟩
 rcases hkd with ⟨rfl, ha⟩ | ⟨rfl, ha⟩
 all_goals
  refine FI (PMr [15, 24]) Tryz.func49 Tryz.ntmps49 [(15, 26, [], [], (lin [] [0, 1, 2, 3, 4, 5, 6, 7, 8, 9, 10, 11, 12, 13, 14, 15, 16, 17, 18, 19, 20, 21, 22, 23, 24, 25])), (24, 15, [], [], (lin [] [0, 1, 2, 3, 4, 5, 6, 7, 8, 9, 10, 11, 12, 13, 14])), (26, 11, [], [], (lin [] [0, 1, 2, 3, 4, 5, 6, 7, 8, 9, 10]))] rfl rfl ?_
  (have hWf := w3 @MNode.enc_eq @MProgram.enc_eq @ha; repeat' (first | refine zS ?_ | refine zI ?_ ?_ | exact zF0 | refine zD fun hb => ?_ | exact zC | refine zT ?_ | fail))
  all_goals first
  | (
    (try clear hop hsp)
    (try clear hK)
    refine sB ?_
    rw [Bool.eq_iff_iff, xI]
    have hpa0 := @pats0 pats
    simp only [xG, ha, xT] at *
    first | (simp_all; done) | grind | (constructor <;> intro hh <;> grind))
  | (refine xk (fun m σ => ∃ j : Nat, j <= kids.length /\ m = kids.length - j /\ σ.t 2 = .bx 2 0 /\ σ.t 3 = .bx 3 0 /\ σ.b 2 = some (.box [.sl 3 (p.types.map MType.enc), .sl 6 (p.nodes.map MNode.enc)]) /\ σ.b 3 = some (.box [.s (.int .i64 k0), .s (.int .i64 at_), .s (.int .i64 n), .s (.string s), yX kids, .sl 1 (pats.map MPat.enc)]) /\
     σ.t 44 = yX kids /\ σ.t 45 = .s (.int .i64 kids.length) /\ σ.t 46 = .s (.int .i64 j) /\ ∀ x ∈ kids.take j, (decide (0 <= x) && decide (x < (p.nodes.length : Int))) = true) kids.length ⟨0, by omega, by omega, ?_⟩ ?_
     ·simp only [go_sem, simprocAttr, Int.natCast_zero, hk0]
      all_goals simp
     ·rintro m σ ⟨j, hj, rfl, g2, g3, gb2, gb3, g44, g45, g46, hno⟩ K' hK
      by_cases hlt : j < kids.length
      ·have hx := xh iE kids j hlt
       (have hWf := w10 @hk0 @g2 @g3 @gb2 @gb3 @g44 @g45 @g46 @hx @xQ; repeat' (first | refine zS ?_ | refine zI ?_ ?_ | exact zF0 | refine zD fun hb => ?_ | exact zC | refine zT ?_ | fail))
       ·refine sB ?_
        unfold xO
        rw [wL hlt hb]; rfl
       ·refine hK (kids.length - (j + 1)) _ (by omega) ⟨j + 1, by omega, rfl, ?_⟩
        simp only [go_sem, simprocAttr, g2, g3, gb2, gb3, g44, g45, Int.natCast_succ]
        exact xL hlt hno (wM (by omega) (by omega))
      ·obtain rfl : j = kids.length := by omega
       have hin : inB p.nodes kids = true := x6 hno
       clear hno hK
       (have hWf := w8 @hk0 @g2 @g3 @gb2 @gb3 @g44 @g45 @g46; repeat' (first | refine zS ?_ | refine zI ?_ ?_ | ((with_reducible apply xc); refine zG (xU _) ?_) | ((with_reducible apply xl); refine xi (xU _) ?_) | refine zK (xr s hsz) ?_ | refine zK (ul s) ?_ | exact zF0 | refine zD fun hb => ?_ | exact zC | refine zT ?_ | fail))
       all_goals
        (try clear hop hsp)
        (try clear hK)
        refine sB ?_
        rw [Bool.eq_iff_iff, xI]
        have hpa0 := @pats0 pats
        simp only [xG, ha, xT] at *
        first | (simp_all; done) | grind | (constructor <;> intro hh <;> grind))
theorem l04Node_8 (p : MProgram) (kind : Int) (hkd : (kind = 8 /\ arI kind = 2)) (at_ n : Int) (s : ByteArray) (kids : List Int) (pats : List MPat) (hkl : kids.length <= 1048576) (hpl : pats.length <= 1048576) (hsz : s.size <= maxLen) (hop : ∀ q ∈ pats, q.ok) (hsp : smS MPat.sm pats) :
  FCon Tryz.prog 49 [.ag p.enc, .ag (MNode.mk kind at_ n s kids pats).enc] (fun r _ => r = .s (.bool (xO p.nodes ⟨kind, at_, n, s, kids, pats⟩))) := by
 obtain ⟨k0, hk0⟩ : ∃ k0 : Int, k0 = kind := ⟨_, rfl⟩
 rcases hkd with ⟨rfl, ha⟩
 all_goals
  refine FI (PMr [15, 24]) Tryz.func49 Tryz.ntmps49 [(15, 26, [], [], (lin [] [0, 1, 2, 3, 4, 5, 6, 7, 8, 9, 10, 11, 12, 13, 14, 15, 16, 17, 18, 19, 20, 21, 22, 23, 24, 25])), (24, 15, [], [], (lin [] [0, 1, 2, 3, 4, 5, 6, 7, 8, 9, 10, 11, 12, 13, 14])), (26, 11, [], [], (lin [] [0, 1, 2, 3, 4, 5, 6, 7, 8, 9, 10]))] rfl rfl ?_
  (have hWf := w3 @MNode.enc_eq @MProgram.enc_eq @ha; repeat' (first | refine zS ?_ | refine zI ?_ ?_ | exact zF0 | refine zD fun hb => ?_ | exact zC | refine zT ?_ | fail))
  all_goals first
  | (
    (try clear hop hsp)
    (try clear hK)
    refine sB ?_
    rw [Bool.eq_iff_iff, xI]
    have hpa0 := @pats0 pats
    simp only [xG, ha, xT] at *
    first | (simp_all; done) | grind | (constructor <;> intro hh <;> grind))
  | (refine xk (fun m σ => ∃ j : Nat, j <= kids.length /\ m = kids.length - j /\ σ.t 2 = .bx 2 0 /\ σ.t 3 = .bx 3 0 /\ σ.b 2 = some (.box [.sl 3 (p.types.map MType.enc), .sl 6 (p.nodes.map MNode.enc)]) /\ σ.b 3 = some (.box [.s (.int .i64 k0), .s (.int .i64 at_), .s (.int .i64 n), .s (.string s), yX kids, .sl 1 (pats.map MPat.enc)]) /\
     σ.t 44 = yX kids /\ σ.t 45 = .s (.int .i64 kids.length) /\ σ.t 46 = .s (.int .i64 j) /\ ∀ x ∈ kids.take j, (decide (0 <= x) && decide (x < (p.nodes.length : Int))) = true) kids.length ⟨0, by omega, by omega, ?_⟩ ?_
     ·simp only [go_sem, simprocAttr, Int.natCast_zero, hk0]
      all_goals simp
     ·rintro m σ ⟨j, hj, rfl, g2, g3, gb2, gb3, g44, g45, g46, hno⟩ K' hK
      by_cases hlt : j < kids.length
      ·have hx := xh iE kids j hlt
       (have hWf := w10 @hk0 @g2 @g3 @gb2 @gb3 @g44 @g45 @g46 @hx @xQ; repeat' (first | refine zS ?_ | refine zI ?_ ?_ | exact zF0 | refine zD fun hb => ?_ | exact zC | refine zT ?_ | fail))
       ·refine sB ?_
        unfold xO
        rw [wL hlt hb]; rfl
       ·refine hK (kids.length - (j + 1)) _ (by omega) ⟨j + 1, by omega, rfl, ?_⟩
        simp only [go_sem, simprocAttr, g2, g3, gb2, gb3, g44, g45, Int.natCast_succ]
        exact xL hlt hno (wM (by omega) (by omega))
      ·obtain rfl : j = kids.length := by omega
       have hin : inB p.nodes kids = true := x6 hno
       clear hno hK
       cases kids with
       | nil =>
        have hin : inB p.nodes [] = true := rfl
        (have hWf := w8 @hk0 @g2 @g3 @gb2 @gb3 @g44 @g45 @g46; repeat' (first | refine zS ?_ | refine zI ?_ ?_ | ((with_reducible apply xc); refine zG (xU _) ?_) | ((with_reducible apply xl); refine xi (xU _) ?_) | refine zK (xr s hsz) ?_ | exact zF0 | refine zD fun hb => ?_ | exact zC | refine zT ?_ | fail))
        all_goals
         (try clear hop hsp)
         (try clear hK)
         refine sB ?_
         rw [Bool.eq_iff_iff, xI]
         have hpa0 := @pats0 pats
         simp only [xG, ha, xT] at *
         first | (simp_all; done) | grind | (constructor <;> intro hh <;> grind)
       | cons z l =>
        have hz := List.all_eq_true.1 hin z (by simp)
        simp only [Bool.and_eq_true, decide_eq_true_eq] at hz
        obtain ⟨q, rfl⟩ : ∃ q : Nat, z = (q : Int) := ⟨z.toNat, by omega⟩
        have hq : q < p.nodes.length := by omega
        have hn := xh MNode.enc p.nodes q hq
        have hne := MNode.enc_eq p.nodes[q]
        have hkk := fun kd => XF (nodes := p.nodes) (l := (q : Int) :: l) (by simp) hq rfl kd
        have h1k : (((l.length + 1 : Nat) : Int) == 1) = decide (l.length + 1 = 1) := by rw [Bool.eq_iff_iff]; simp only [beq_iff_eq, decide_eq_true_eq]; omega
        cases h2 : (((l.length + 1 : Nat) : Int) != 2)
        all_goals
         (have hWf := w12 @hk0 @g2 @g3 @gb2 @gb3 @g44 @g45 @g46 @hn @hne @xQ @h2; repeat' (first | refine zS ?_ | refine zI ?_ ?_ | ((with_reducible apply xc); refine zG (xU _) ?_) | ((with_reducible apply xl); refine xi (xU _) ?_) | refine zK (xr s hsz) ?_ | exact zF0 | refine zD fun hb => ?_ | exact zC | refine zT ?_ | fail))
         all_goals
          (try clear hop hsp)
          (try clear hK)
          refine sB ?_
          rw [Bool.eq_iff_iff, xI]
          have hpa0 := @pats0 pats
          simp only [xG, ha, xT, hkk, List.length_cons] at *
          first | (simp_all; done) | grind | (constructor <;> intro hh <;> grind))
theorem l04Node_4 (p : MProgram) (kind : Int) (hkd : (kind = 4 /\ arI kind = -1)) (at_ n : Int) (s : ByteArray) (kids : List Int) (pats : List MPat) (hkl : kids.length <= 1048576) (hpl : pats.length <= 1048576) (hsz : s.size <= maxLen) (hop : ∀ q ∈ pats, q.ok) (hsp : smS MPat.sm pats) :
  FCon Tryz.prog 49 [.ag p.enc, .ag (MNode.mk kind at_ n s kids pats).enc] (fun r _ => r = .s (.bool (xO p.nodes ⟨kind, at_, n, s, kids, pats⟩))) := by
 obtain ⟨k0, hk0⟩ : ∃ k0 : Int, k0 = kind := ⟨_, rfl⟩
 rcases hkd with ⟨rfl, ha⟩
 all_goals
  refine FI (PMr [15, 24]) Tryz.func49 Tryz.ntmps49 [(15, 26, [], [], (lin [] [0, 1, 2, 3, 4, 5, 6, 7, 8, 9, 10, 11, 12, 13, 14, 15, 16, 17, 18, 19, 20, 21, 22, 23, 24, 25])), (24, 15, [], [], (lin [] [0, 1, 2, 3, 4, 5, 6, 7, 8, 9, 10, 11, 12, 13, 14])), (26, 11, [], [], (lin [] [0, 1, 2, 3, 4, 5, 6, 7, 8, 9, 10]))] rfl rfl ?_
  (have hWf := w3 @MNode.enc_eq @MProgram.enc_eq @ha; repeat' (first | refine zS ?_ | refine zI ?_ ?_ | exact zF0 | refine zD fun hb => ?_ | exact zC | refine zT ?_ | fail))
  all_goals first
  | (
    (try clear hop hsp)
    (try clear hK)
    refine sB ?_
    rw [Bool.eq_iff_iff, xI]
    have hpa0 := @pats0 pats
    simp only [xG, ha, xT] at *
    first | (simp_all; done) | grind | (constructor <;> intro hh <;> grind))
  | (refine xk (fun m σ => ∃ j : Nat, j <= kids.length /\ m = kids.length - j /\ σ.t 2 = .bx 2 0 /\ σ.t 3 = .bx 3 0 /\ σ.b 2 = some (.box [.sl 3 (p.types.map MType.enc), .sl 6 (p.nodes.map MNode.enc)]) /\ σ.b 3 = some (.box [.s (.int .i64 k0), .s (.int .i64 at_), .s (.int .i64 n), .s (.string s), yX kids, .sl 1 (pats.map MPat.enc)]) /\
     σ.t 44 = yX kids /\ σ.t 45 = .s (.int .i64 kids.length) /\ σ.t 46 = .s (.int .i64 j) /\ ∀ x ∈ kids.take j, (decide (0 <= x) && decide (x < (p.nodes.length : Int))) = true) kids.length ⟨0, by omega, by omega, ?_⟩ ?_
     ·simp only [go_sem, simprocAttr, Int.natCast_zero, hk0]
      all_goals simp
     ·rintro m σ ⟨j, hj, rfl, g2, g3, gb2, gb3, g44, g45, g46, hno⟩ K' hK
      by_cases hlt : j < kids.length
      ·have hx := xh iE kids j hlt
       (have hWf := w10 @hk0 @g2 @g3 @gb2 @gb3 @g44 @g45 @g46 @hx @xQ; repeat' (first | refine zS ?_ | refine zI ?_ ?_ | exact zF0 | refine zD fun hb => ?_ | exact zC | refine zT ?_ | fail))
       ·refine sB ?_
        unfold xO
        rw [wL hlt hb]; rfl
       ·refine hK (kids.length - (j + 1)) _ (by omega) ⟨j + 1, by omega, rfl, ?_⟩
        simp only [go_sem, simprocAttr, g2, g3, gb2, gb3, g44, g45, Int.natCast_succ]
        exact xL hlt hno (wM (by omega) (by omega))
      ·obtain rfl : j = kids.length := by omega
       have hin : inB p.nodes kids = true := x6 hno
       clear hno hK
       cases kids with
       | nil =>
        have hin : inB p.nodes [] = true := rfl
        cases hp0 : ((pats.length : Int) == 0)
        all_goals
         (have hWf := w9 @hk0 @g2 @g3 @gb2 @gb3 @g44 @g45 @g46 @hp0; repeat' (first | refine zS ?_ | refine zI ?_ ?_ | ((with_reducible apply xc); refine zG (yb s hsz 0 _) ?_) | ((with_reducible apply xl); refine xi (yb s hsz 0 _) ?_) | exact zF0 | refine zD fun hb => ?_ | exact zC | refine zT ?_ | fail))
         all_goals
          (try clear hop hsp)
          (try clear hK)
          refine sB ?_
          rw [Bool.eq_iff_iff, xI]
          have hpa0 := @pats0 pats
          simp only [xG, ha, xT] at *
          first | (simp_all; done) | grind | (constructor <;> intro hh <;> grind)
       | cons z l =>
        have hz := List.all_eq_true.1 hin z (by simp)
        simp only [Bool.and_eq_true, decide_eq_true_eq] at hz
        obtain ⟨q, rfl⟩ : ∃ q : Nat, z = (q : Int) := ⟨z.toNat, by omega⟩
        have hq : q < p.nodes.length := by omega
        have hn := xh MNode.enc p.nodes q hq
        have hne := MNode.enc_eq p.nodes[q]
        have hkk := fun kd => XF (nodes := p.nodes) (l := (q : Int) :: l) (by simp) hq rfl kd
        have h1k : (((l.length + 1 : Nat) : Int) == 1) = decide (l.length + 1 = 1) := by rw [Bool.eq_iff_iff]; simp only [beq_iff_eq, decide_eq_true_eq]; omega
        cases hp0 : ((pats.length : Int) == 0)
        all_goals
         cases h1 : (((l.length + 1 : Nat) : Int) == 1)
         all_goals
          (have hWf := w13 @hk0 @g2 @g3 @gb2 @gb3 @g44 @g45 @g46 @hn @hne @xQ @hp0 @h1; repeat' (first | refine zS ?_ | refine zI ?_ ?_ | ((with_reducible apply xc); refine zG (yb s hsz (l.length + 1) _) ?_) | ((with_reducible apply xl); refine xi (yb s hsz (l.length + 1) _) ?_) | exact zF0 | refine zD fun hb => ?_ | exact zC | refine zT ?_ | fail))
          all_goals
           (try clear hop hsp)
           (try clear hK)
           refine sB ?_
           rw [Bool.eq_iff_iff, xI]
           have hpa0 := @pats0 pats
           simp only [xG, ha, xT, hkk, List.length_cons, h1k] at *
           first | (simp_all; done) | grind | (constructor <;> intro hh <;> grind))
theorem xaB (p : MProgram) (kind : Int) (hkd : (kind = 13 /\ arI kind = -1)) (at_ n : Int) (s : ByteArray) (kids : List Int) (pats : List MPat) (hkl : kids.length <= 1048576) (hpl : pats.length <= 1048576) (hsz : s.size <= maxLen) (hop : ∀ q ∈ pats, q.ok) (hsp : smS MPat.sm pats) :
  FCon Tryz.prog 49 [.ag p.enc, .ag (MNode.mk kind at_ n s kids pats).enc] (fun r _ => r = .s (.bool (xO p.nodes ⟨kind, at_, n, s, kids, pats⟩))) := by
 obtain ⟨k0, hk0⟩ : ∃ k0 : Int, k0 = kind := ⟨_, rfl⟩
 rcases hkd with ⟨rfl, ha⟩
 all_goals
  refine FI (PMr [15, 24]) Tryz.func49 Tryz.ntmps49 [(15, 26, [], [], (lin [] [0, 1, 2, 3, 4, 5, 6, 7, 8, 9, 10, 11, 12, 13, 14, 15, 16, 17, 18, 19, 20, 21, 22, 23, 24, 25])), (24, 15, [], [], (lin [] [0, 1, 2, 3, 4, 5, 6, 7, 8, 9, 10, 11, 12, 13, 14])), (26, 11, [], [], (lin [] [0, 1, 2, 3, 4, 5, 6, 7, 8, 9, 10]))] rfl rfl ?_
  (have hWf := w3 @MNode.enc_eq @MProgram.enc_eq @ha; repeat' (first | refine zS ?_ | refine zI ?_ ?_ | exact zF0 | refine zD fun hb => ?_ | exact zC | refine zT ?_ | fail))
  all_goals first
  | (
    (try clear hop hsp)
    (try clear hK)
    refine sB ?_
    rw [Bool.eq_iff_iff, xI]
    have hpa0 := @pats0 pats
    simp only [xG, ha, xT] at *
    first | (simp_all; done) | grind | (constructor <;> intro hh <;> grind))
  | (refine xk (fun m σ => ∃ j : Nat, j <= kids.length /\ m = kids.length - j /\ σ.t 2 = .bx 2 0 /\ σ.t 3 = .bx 3 0 /\ σ.b 2 = some (.box [.sl 3 (p.types.map MType.enc), .sl 6 (p.nodes.map MNode.enc)]) /\ σ.b 3 = some (.box [.s (.int .i64 k0), .s (.int .i64 at_), .s (.int .i64 n), .s (.string s), yX kids, .sl 1 (pats.map MPat.enc)]) /\
     σ.t 44 = yX kids /\ σ.t 45 = .s (.int .i64 kids.length) /\ σ.t 46 = .s (.int .i64 j) /\ ∀ x ∈ kids.take j, (decide (0 <= x) && decide (x < (p.nodes.length : Int))) = true) kids.length ⟨0, by omega, by omega, ?_⟩ ?_
     ·simp only [go_sem, simprocAttr, Int.natCast_zero, hk0]
      all_goals simp
     ·rintro m σ ⟨j, hj, rfl, g2, g3, gb2, gb3, g44, g45, g46, hno⟩ K' hK
      by_cases hlt : j < kids.length
      ·have hx := xh iE kids j hlt
       (have hWf := w10 @hk0 @g2 @g3 @gb2 @gb3 @g44 @g45 @g46 @hx @xQ; repeat' (first | refine zS ?_ | refine zI ?_ ?_ | exact zF0 | refine zD fun hb => ?_ | exact zC | refine zT ?_ | fail))
       ·refine sB ?_
        unfold xO
        rw [wL hlt hb]; rfl
       ·refine hK (kids.length - (j + 1)) _ (by omega) ⟨j + 1, by omega, rfl, ?_⟩
        simp only [go_sem, simprocAttr, g2, g3, gb2, gb3, g44, g45, Int.natCast_succ]
        exact xL hlt hno (wM (by omega) (by omega))
      ·obtain rfl : j = kids.length := by omega
       have hin : inB p.nodes kids = true := x6 hno
       clear hno hK
       (have hWf := w8 @hk0 @g2 @g3 @gb2 @gb3 @g44 @g45 @g46; repeat' (first | refine zS ?_ | refine zI ?_ ?_ | ((with_reducible apply xc); refine zG (xU _) ?_) | ((with_reducible apply xl); refine xi (xU _) ?_) | exact zF0 | refine zD fun hb => ?_ | exact zC | refine zT ?_ | fail))
       all_goals first
       | (
        (try clear hop hsp)
        (try clear hK)
        refine sB ?_
        rw [Bool.eq_iff_iff, xI]
        have hpa0 := @pats0 pats
        simp only [xG, ha, xT] at *
        first | (simp_all; done) | grind | (constructor <;> intro hh <;> grind))
       | (refine xk (fun m σ => ∃ j : Nat, j <= pats.length /\ m = pats.length - j /\ σ.t 2 = .bx 2 0 /\ σ.t 3 = .bx 3 0 /\ σ.b 2 = some (.box [.sl 3 (p.types.map MType.enc), .sl 6 (p.nodes.map MNode.enc)]) /\ σ.b 3 = some (.box [.s (.int .i64 k0), .s (.int .i64 at_), .s (.int .i64 n), .s (.string s), yX kids, .sl 1 (pats.map MPat.enc)]) /\
         σ.t 158 = .sl 1 (pats.map MPat.enc) /\ σ.t 159 = .s (.int .i64 pats.length) /\ σ.t 160 = .s (.int .i64 j) /\ ∀ q ∈ pats.take j, patM q.nodes = true) pats.length ⟨0, by omega, by omega, ?_⟩ ?_
          ·simp only [go_sem, simprocAttr, hk0, g2, g3, gb2, gb3, Int.natCast_zero]
           all_goals simp
          ·rintro m σ ⟨j, hj, rfl, e2, e3, eb2, eb3, e158, e159, e160, hno⟩ K'' hK
           by_cases hlt : j < pats.length
           ·have hx := xh MPat.enc pats j hlt
            have he := MPat.enc_eq pats[j]
            have hpc := QG pats[j].nodes (hop _ (List.getElem_mem hlt)) (hsp.2 _ (List.getElem_mem hlt))
            cases hpm : patM pats[j].nodes with
            | false =>
             rw [hpm] at hpc
             (have hWf := w10 @hk0 @e2 @e3 @eb2 @eb3 @e158 @e159 @e160 @hx @he; repeat' (first | refine zS ?_ | refine zI ?_ ?_ | refine zK (hpc) ?_ | exact zF0 | refine zD fun hb => ?_ | exact zC | refine zT ?_ | fail))
             refine sB ?_
             unfold xO
             rw [y9 (p := fun q : MPat => patM q.nodes) hlt hpm]; simp
            | true =>
             rw [hpm] at hpc
             (have hWf := w10 @hk0 @e2 @e3 @eb2 @eb3 @e158 @e159 @e160 @hx @he; repeat' (first | refine zS ?_ | refine zI ?_ ?_ | refine zK (hpc) ?_ | exact zF0 | refine zD fun hb => ?_ | exact zC | refine zT ?_ | fail))
             refine hK (pats.length - (j + 1)) _ (by omega) ⟨j + 1, by omega, rfl, ?_⟩
             simp only [go_sem, simprocAttr, e2, e3, eb2, eb3, e158, e159, Int.natCast_succ]
             exact xL hlt hno hpm
           ·obtain rfl : j = pats.length := by omega
            have hpa := x6 (p := fun q : MPat => patM q.nodes) hno
            clear hno hK
            (have hWf := w8 @hk0 @e2 @e3 @eb2 @eb3 @e158 @e159 @e160; repeat' (first | refine zS ?_ | refine zI ?_ ?_ | exact zF0 | refine zD fun hb => ?_ | exact zC | refine zT ?_ | fail))
            all_goals
             (try clear hop hsp)
             (try clear hK)
             refine sB ?_
             rw [Bool.eq_iff_iff, xI]
             have hpa0 := @pats0 pats
             simp only [xG, ha, xT, hpa] at *
             first | (simp_all; done) | grind | (constructor <;> intro hh <;> grind)))
theorem ZE (xs : List MType) (f : FuncId) (caps : List D) (hm : PM.md f = []) (p : MType -> Bool) (hf : ∀ x ∈ xs, FCon Tryz.prog f (.ag x.enc :: caps) (fun r _ => r = .s (.bool (p x)))) :
  FCon Tryz.prog 178 [.sl 3 (xs.map MType.enc), .fn f caps] (fun r _ => r = .s (.int .i64 (fidx p xs))) := by
 refine FI PM Tryz.func178 Tryz.ntmps178 [] rfl rfl ?_
 refine y4 0 rfl trivial fun hlen => ?_
 simp only [List.length_map] at hlen
 (have hWf := f0; repeat' (first | refine zS ?_ | refine zI ?_ ?_ | exact zF0 | refine zD fun hb => ?_ | exact zC | refine zT ?_ | fail))
 refine xk (fun n σ => ∃ k : Nat, k <= xs.length /\ n = xs.length - k /\ σ.t 0 = .sl 3 (xs.map MType.enc) /\ σ.t 1 = .fn f caps /\ σ.t 7 = .s (.int .i64 xs.length) /\ σ.t 8 = .s (.int .i64 k) /\ ∀ x ∈ xs.take k, p x = false) xs.length ⟨0, by omega, by omega, ?_⟩ ?_
 ·simp only [go_sem, simprocAttr, Int.natCast_zero]
  all_goals simp
 ·rintro n σ ⟨k, hk, rfl, h0, h1, h7, h8, hno⟩ K' hK
  by_cases hlt : k < xs.length
  ·have hx := xh MType.enc xs k hlt
   have he := MType.enc_eq xs[k]
   have hc := hf xs[k] (List.getElem_mem hlt)
   rw [he] at hc
   cases hp : p xs[k] with
   | true =>
    rw [hp] at hc
    (have hWf := w7 @h0 @h1 @h7 @h8 @hx @he @hm; repeat' (first | refine zS ?_ | refine zI ?_ ?_ | refine zK (hc) ?_ | exact zF0 | refine zD fun hb => ?_ | exact zC | refine zT ?_ | fail))
    all_goals exact yp (W7 p xs k hlt hno hp).symm
   | false =>
    rw [hp] at hc
    (have hWf := w7 @h0 @h1 @h7 @h8 @hx @he @hm; repeat' (first | refine zS ?_ | refine zI ?_ ?_ | refine zK (hc) ?_ | exact zF0 | refine zD fun hb => ?_ | exact zC | refine zT ?_ | fail))
    refine hK (xs.length - (k + 1)) _ (by omega) ⟨k + 1, by omega, rfl, ?_⟩
    simp only [go_sem, simprocAttr, h0, h1, h7, Int.natCast_succ]
    exact take_no hlt hno hp
  ·obtain rfl : k = xs.length := by omega
   (have hWf := w4 @h0 @h1 @h7 @h8; repeat' (first | refine zS ?_ | refine zI ?_ ?_ | exact zF0 | refine zD fun hb => ?_ | exact zC | refine zT ?_ | fail))
   exact yp (W8 p xs (by simpa using hno)).symm
theorem uM (xs : List MType) (f : FuncId) (caps : List D) (hm : PM.md f = []) (p : MType -> Bool) (hf : ∀ x ∈ xs, FCon Tryz.prog f (.ag x.enc :: caps) (fun r _ => r = .s (.bool (p x)))) :
  FCon Tryz.prog 98 [.sl 3 (xs.map MType.enc), .fn f caps] (fun r _ => r = .s (.bool (xs.any p))) := by
 refine FI PM Tryz.func98 Tryz.ntmps98 [] rfl rfl ?_
 (have hWf := f0; repeat' (first | refine zS ?_ | refine zI ?_ ?_ | refine zK (ZE xs f caps hm p hf) ?_ | exact zF0 | refine zD fun hb => ?_ | exact zC | refine zT ?_ | fail))
 exact sB (ZN p xs)
theorem Wu (xs : List MPat) (f : FuncId) (caps : List D) (hm : PM.md f = []) (p : MPat -> Bool) (hf : ∀ x ∈ xs, FCon Tryz.prog f (.ag x.enc :: caps) (fun r _ => r = .s (.bool (p x)))) :
  FCon Tryz.prog 105 [.sl 1 (xs.map MPat.enc), .fn f caps] (fun r _ => r = .s (.int .i64 (fidx p xs))) := by
 refine FI PM Tryz.func105 Tryz.ntmps105 [] rfl rfl ?_
 refine y4 0 rfl trivial fun hlen => ?_
 simp only [List.length_map] at hlen
 (have hWf := f0; repeat' (first | refine zS ?_ | refine zI ?_ ?_ | exact zF0 | refine zD fun hb => ?_ | exact zC | refine zT ?_ | fail))
 refine xk (fun n σ => ∃ k : Nat, k <= xs.length /\ n = xs.length - k /\ σ.t 0 = .sl 1 (xs.map MPat.enc) /\ σ.t 1 = .fn f caps /\ σ.t 7 = .s (.int .i64 xs.length) /\ σ.t 8 = .s (.int .i64 k) /\ ∀ x ∈ xs.take k, p x = false) xs.length ⟨0, by omega, by omega, ?_⟩ ?_
 ·simp only [go_sem, simprocAttr, Int.natCast_zero]
  all_goals simp
 ·rintro n σ ⟨k, hk, rfl, h0, h1, h7, h8, hno⟩ K' hK
  by_cases hlt : k < xs.length
  ·have hx := xh MPat.enc xs k hlt
   have he := MPat.enc_eq xs[k]
   have hc := hf xs[k] (List.getElem_mem hlt)
   rw [he] at hc
   cases hp : p xs[k] with
   | true =>
    rw [hp] at hc
    (have hWf := w7 @h0 @h1 @h7 @h8 @hx @he @hm; repeat' (first | refine zS ?_ | refine zI ?_ ?_ | refine zK (hc) ?_ | exact zF0 | refine zD fun hb => ?_ | exact zC | refine zT ?_ | fail))
    all_goals exact yp (W7 p xs k hlt hno hp).symm
   | false =>
    rw [hp] at hc
    (have hWf := w7 @h0 @h1 @h7 @h8 @hx @he @hm; repeat' (first | refine zS ?_ | refine zI ?_ ?_ | refine zK (hc) ?_ | exact zF0 | refine zD fun hb => ?_ | exact zC | refine zT ?_ | fail))
    refine hK (xs.length - (k + 1)) _ (by omega) ⟨k + 1, by omega, rfl, ?_⟩
    simp only [go_sem, simprocAttr, h0, h1, h7, Int.natCast_succ]
    exact take_no hlt hno hp
  ·obtain rfl : k = xs.length := by omega
   (have hWf := w4 @h0 @h1 @h7 @h8; repeat' (first | refine zS ?_ | refine zI ?_ ?_ | exact zF0 | refine zD fun hb => ?_ | exact zC | refine zT ?_ | fail))
   exact yp (W8 p xs (by simpa using hno)).symm
theorem Yw (xs : List MPat) (f : FuncId) (caps : List D) (hm : PM.md f = []) (p : MPat -> Bool) (hf : ∀ x ∈ xs, FCon Tryz.prog f (.ag x.enc :: caps) (fun r _ => r = .s (.bool (p x)))) :
  FCon Tryz.prog 44 [.sl 1 (xs.map MPat.enc), .fn f caps] (fun r _ => r = .s (.bool (xs.any p))) := by
 refine FI PM Tryz.func44 Tryz.ntmps44 [] rfl rfl ?_
 (have hWf := f0; repeat' (first | refine zS ?_ | refine zI ?_ ?_ | refine zK (Wu xs f caps hm p hf) ?_ | exact zF0 | refine zD fun hb => ?_ | exact zC | refine zT ?_ | fail))
 exact sB (ZN p xs)
def wS (p : MProgram) (nb : MNode -> Bool) : Bool := !(!(decide (1 <= (p.nodes.length : Int)) && decide ((p.nodes.length : Int) <= 600)) || decide (8 < (p.types.length : Int))) && xR (xN p.nodes) && (p.nodes.all fun n => ya p.nodes n (nb n)) && p.types.all zW
theorem xaS {p : MProgram} {nb : MNode -> Bool} (h : ((p.nodes.length : Int) < 1 \/ 600 < (p.nodes.length : Int)) \/ 8 < (p.types.length : Int)) : wS p nb = false := by
 unfold wS
 rcases h with (h | h) | h
 ·rw [decide_eq_false (by omega : ¬ 1 <= (p.nodes.length : Int))]; simp
 ·rw [decide_eq_false (by omega : ¬ (p.nodes.length : Int) <= 600)]; simp
 ·rw [decide_eq_true h]; simp
theorem xaT {p : MProgram} {nb : MNode -> Bool} (h : xR (xN p.nodes) = false) : wS p nb = false := by unfold wS; rw [h]; simp
theorem shapeI_ok {p : MProgram} {nb : MNode -> Bool} (h1 : 1 <= (p.nodes.length : Int)) (h2 : (p.nodes.length : Int) <= 600) (h3 : (p.types.length : Int) <= 8) (h : xR (xN p.nodes) = true) : wS p nb = ((p.nodes.all fun n => ya p.nodes n (nb n)) && p.types.all zW) := by
 unfold wS
 rw [h, decide_eq_true h1, decide_eq_true h2, decide_eq_false (by omega : ¬ 8 < (p.types.length : Int))]; simp
theorem WB (t : MType) (ho : t.ok) (hs : t.sm) : FCon Tryz.prog 99 [.ag t.enc] (fun r _ => r = .s (.bool (!zW t))) := by
 have h := c_typeOk t ho hs
 rw [MType.enc_eq] at h
 refine FI PM Tryz.func99 Tryz.ntmps99 [] rfl rfl ?_
 (have hWf := w1 @MType.enc_eq; repeat' (first | refine zS ?_ | refine zI ?_ ?_ | refine zK (h) ?_ | exact zF0 | refine zD fun hb => ?_ | exact zC | refine zT ?_ | fail))
theorem c_progOk1 (n : MNode) (ho : n.ok) : FCon Tryz.prog 42 [.ag n.enc] (fun r _ => r = .s (.bool (xT n))) := by
 refine FI PM Tryz.func42 Tryz.ntmps42 [] rfl rfl ?_
 (have hWf := w1 @MNode.enc_eq; repeat' (first | refine zS ?_ | refine zI ?_ ?_ | refine zK (wE n.s ho.2.2.2.1) ?_ | exact zF0 | refine zD fun hb => ?_ | exact zC | refine zT ?_ | fail))
 all_goals
  refine sB ?_
  unfold xT
  first | rfl | (congr 1; rw [Bool.eq_iff_iff]; simp)
theorem c_progOk2 (q : MPat) (ho : q.ok) (hs : q.sm) : FCon Tryz.prog 45 [.ag q.enc] (fun r _ => r = .s (.bool (!patM q.nodes))) := by
 refine FI PM Tryz.func45 Tryz.ntmps45 [] rfl rfl ?_
 (have hWf := w1 @MPat.enc_eq; repeat' (first | refine zS ?_ | refine zI ?_ ?_ | refine zK (Qu q.nodes ho hs) ?_ | exact zF0 | refine zD fun hb => ?_ | exact zC | refine zT ?_ | fail))
theorem node_kid {p : MProgram} (hor : xR (xN p.nodes) = true) {k : Nat} (hlk : k < p.nodes.length) (h0 : 0 < p.nodes[k].kids.length) : ∃ q : Nat, p.nodes[k].kids[0] = (q : Int) /\ q < p.nodes.length := by
 unfold xR at hor
 have he : pEnd (xN p.nodes) (xN p.nodes).length 0 = some (xN p.nodes).length := by simpa using hor
 have hlen : (xN p.nodes).length = p.nodes.length := by simp
 have := Ye (xN p.nodes) _ _ _ he k (by rw [hlen]; exact hlk) (Nat.zero_le _) (by rw [hlen]; exact hlk) (p.nodes[k].kids[0]) (by simp [xN])
 rw [hlen] at this
 exact this
theorem c_shapeOk (p : MProgram) (ho : p.ok) (hs : p.sm) (f : FuncId) (caps : List D) (hm : PM.md f = []) (nb : MNode -> Bool) (hf : ∀ n ∈ p.nodes, FCon Tryz.prog f (.ag n.enc :: caps) (fun r _ => r = .s (.bool (nb n)))) :
  FCon Tryz.prog 41 [.ag p.enc, .fn f caps] (fun r _ => r = .s (.bool (wS p nb))) := by
 obtain ⟨o1, o2⟩ := ho
 obtain ⟨s1, s2⟩ := hs
 have hln := s2.1
 have hlt := s1.1
 have hkl : ∀ x ∈ p.nodes, x.kids.length <= 1000000000 := fun x hx => by have := (s2.2 x hx).2.1.1; omega
 have hio := Q9 p o2 (by omega) hkl
 rw [MProgram.enc_eq] at hio
 refine FI PM Tryz.func41 Tryz.ntmps41 [] rfl rfl ?_
 (refine xA ?_; simp only [go_sem, simprocAttr, MProgram.enc_eq]; (have hWf := w1 @MProgram.enc_eq; repeat' (first | refine zY ?_ | refine zI ?_ ?_ | exact zF1 | refine zD fun hb => ?_ | exact zC | refine zT ?_ | fail)))
 refine ze 2 (.box [.sl 3 (p.types.map MType.enc), .sl 6 (p.nodes.map MNode.enc)]) (by simp only [go_sem, simprocAttr, MProgram.enc_eq]) rfl ?_
 (have hWf := w1 @MProgram.enc_eq; repeat' (first | refine zS ?_ | refine zI ?_ ?_ | refine zK (yn p.nodes.length 1 600) ?_ | refine zK (hio) ?_ | exact zF0 | refine zD fun hb => ?_ | exact zC | refine zT ?_ | fail))
 ·exact sB (xaS (by omega)).symm
 ·exact sB (xaT (by first | exact hb | exact hb.symm)).symm
 ·rename_i hb1
  have hor : xR (xN p.nodes) = true := by first | exact hb | exact hb.symm
  rw [shapeI_ok (by omega) (by omega) (by omega) hor]
  refine xk (fun n σ => ∃ k : Nat, k <= p.nodes.length /\ n = p.nodes.length - k /\ σ.t 1 = .fn f caps /\ σ.t 2 = .pt [.sl 3 (p.types.map MType.enc), .sl 6 (p.nodes.map MNode.enc)] /\ σ.t 25 = .sl 6 (p.nodes.map MNode.enc) /\ σ.t 26 = .s (.int .i64 p.nodes.length) /\ σ.t 27 = .s (.int .i64 k) /\ ∀ x ∈ p.nodes.take k, ya p.nodes x (nb x) = true) p.nodes.length ⟨0, by omega, by omega, ?_⟩ ?_
  ·simp only [go_sem, simprocAttr, MProgram.enc_eq, Int.natCast_zero]
   all_goals simp
  ·rintro n σ ⟨k, hk, rfl, h1, h2, h25, h26, h27, hno⟩ K' hK
   by_cases hlk : k < p.nodes.length
   ·have hx := xh MNode.enc p.nodes k hlk
    have he := MNode.enc_eq p.nodes[k]
    have hmem := List.getElem_mem hlk
    have hc := c_nodeOk p p.nodes[k] (o2 _ hmem) (s2.2 _ hmem).2.2.1 (by have := (s2.2 _ hmem).2.1.1; omega) f caps hm (nb p.nodes[k]) (hf _ hmem) (node_kid hor hlk)
    rw [MProgram.enc_eq, MNode.enc_eq] at hc
    cases hq : ya p.nodes p.nodes[k] (nb p.nodes[k]) with
    | false =>
     rw [hq] at hc
     (have hWf := w7 @h1 @h2 @h25 @h26 @h27 @hx @he; repeat' (first | refine zS ?_ | refine zI ?_ ?_ | refine zK (hc) ?_ | exact zF0 | refine zD fun hb => ?_ | exact zC | refine zT ?_ | fail))
     rw [y9 (p := fun n => ya p.nodes n (nb n)) hlk hq]; rfl
    | true =>
     rw [hq] at hc
     (have hWf := w7 @h1 @h2 @h25 @h26 @h27 @hx @he; repeat' (first | refine zS ?_ | refine zI ?_ ?_ | refine zK (hc) ?_ | exact zF0 | refine zD fun hb => ?_ | exact zC | refine zT ?_ | fail))
     refine hK (p.nodes.length - (k + 1)) _ (by omega) ⟨k + 1, by omega, rfl, ?_⟩
     simp only [go_sem, simprocAttr, h1, h2, h25, h26, h27, Int.natCast_succ]
     exact xL hlk hno hq
   ·obtain rfl : k = p.nodes.length := by omega
    (have hWf := w5 @h1 @h2 @h25 @h26 @h27; repeat' (first | refine zS ?_ | refine zI ?_ ?_ | ((with_reducible apply xc); refine zG (uM p.types _ [] rfl (fun t => !zW t) (fun t ht => WB t (o1 t ht) (s1.2 t ht))) ?_) | ((with_reducible apply xl); refine xi (uM p.types _ [] rfl (fun t => !zW t) (fun t ht => WB t (o1 t ht) (s1.2 t ht))) ?_) | exact zF0 | refine zD fun hb => ?_ | exact zC | refine zT ?_ | fail))
    rw [x6 (p := fun n => ya p.nodes n (nb n)) hno]
    rw [show p.types.all zW = !p.types.any fun t => !zW t by rw [List.not_any_eq_all_not]; simp]
    rfl
def progI (p : MProgram) : Bool := wS p xT && p.nodes.all fun n => n.pats.all fun q => patM q.nodes
theorem ZF (p : MProgram) (ho : p.ok) (hs : p.sm) : FCon Tryz.prog 14 [.ag p.enc] (fun r _ => r = .s (.bool (progI p))) := by
 have hss := c_shapeOk p ho hs 42 [] rfl xT (fun n hn => c_progOk1 n (ho.2 n hn))
 rw [MProgram.enc_eq] at hss
 obtain ⟨o1, o2⟩ := ho
 obtain ⟨s1, s2⟩ := hs
 have hln := s2.1
 unfold progI
 cases hsh : wS p xT with
 | false =>
  rw [hsh] at hss
  refine FI PM Tryz.func14 Tryz.ntmps14 [] rfl rfl ?_
  (have hWf := w1 @MProgram.enc_eq; repeat' (first | refine zS ?_ | refine zI ?_ ?_ | refine zK (hss) ?_ | exact zF0 | refine zD fun hb => ?_ | exact zC | refine zT ?_ | fail))
  all_goals rfl
 | true =>
  rw [hsh] at hss
  refine FI PM Tryz.func14 Tryz.ntmps14 [] rfl rfl ?_
  (have hWf := w1 @MProgram.enc_eq; repeat' (first | refine zS ?_ | refine zI ?_ ?_ | refine zK (hss) ?_ | exact zF0 | refine zD fun hb => ?_ | exact zC | refine zT ?_ | fail))
  refine xk (fun n σ => ∃ k : Nat, k <= p.nodes.length /\ n = p.nodes.length - k /\ σ.t 9 = .sl 6 (p.nodes.map MNode.enc) /\ σ.t 10 = .s (.int .i64 p.nodes.length) /\ σ.t 11 = .s (.int .i64 k) /\ ∀ x ∈ p.nodes.take k, (x.pats.all fun q => patM q.nodes) = true) p.nodes.length ⟨0, by omega, by omega, ?_⟩ ?_
  ·simp only [go_sem, simprocAttr, MProgram.enc_eq, Int.natCast_zero]
   all_goals simp
  ·rintro n σ ⟨k, hk, rfl, h9, h10, h11, hno⟩ K' hK
   by_cases hlk : k < p.nodes.length
   ·have hx := xh MNode.enc p.nodes k hlk
    have he := MNode.enc_eq p.nodes[k]
    have hmem := List.getElem_mem hlk
    have ho' := (o2 _ hmem).2.2.2.2.2
    have hs' := (s2.2 _ hmem).2.2
    have hna : (p.nodes[k].pats.all fun q => patM q.nodes) = !p.nodes[k].pats.any fun q => !patM q.nodes := by rw [List.not_any_eq_all_not]; simp
    have hcf := Yw p.nodes[k].pats 45 [] rfl (fun q => !patM q.nodes) (fun q hq => c_progOk2 q (ho' q hq) (hs'.2 q hq))
    cases hq : (p.nodes[k].pats.any fun q => !patM q.nodes) with
    | true =>
     rw [hq] at hcf hna
     (have hWf := w5 @h9 @h10 @h11 @hx @he; repeat' (first | refine zS ?_ | refine zI ?_ ?_ | refine zK (hcf) ?_ | exact zF0 | refine zD fun hb => ?_ | exact zC | refine zT ?_ | fail))
     rw [y9 (p := fun n : MNode => n.pats.all fun q => patM q.nodes) hlk hna]
    | false =>
     rw [hq] at hcf hna
     (have hWf := w5 @h9 @h10 @h11 @hx @he; repeat' (first | refine zS ?_ | refine zI ?_ ?_ | refine zK (hcf) ?_ | exact zF0 | refine zD fun hb => ?_ | exact zC | refine zT ?_ | fail))
     refine hK (p.nodes.length - (k + 1)) _ (by omega) ⟨k + 1, by omega, rfl, ?_⟩
     simp only [go_sem, simprocAttr, h9, h10, h11, Int.natCast_succ]
     exact xL hlk hno hna
   ·obtain rfl : k = p.nodes.length := by omega
    (have hWf := w3 @h9 @h10 @h11; repeat' (first | refine zS ?_ | refine zI ?_ ?_ | exact zF0 | refine zD fun hb => ?_ | exact zC | refine zT ?_ | fail))
    rw [x6 (p := fun n : MNode => n.pats.all fun q => patM q.nodes) hno]
theorem order_in {p : MProgram} (h : xR (xN p.nodes) = true) : ∀ n ∈ p.nodes, inB p.nodes n.kids = true := by
 intro n hn
 obtain ⟨k, hk, rfl⟩ := List.getElem_of_mem hn
 unfold xR at h
 have he : pEnd (xN p.nodes) (xN p.nodes).length 0 = some (xN p.nodes).length := by simpa using h
 have hlen : (xN p.nodes).length = p.nodes.length := by simp
 refine List.all_eq_true.2 fun z hz => ?_
 obtain ⟨q, rfl, hq⟩ := Ye (xN p.nodes) _ _ _ he k (by rw [hlen]; exact hk) (Nat.zero_le _) (by rw [hlen]; exact hk) z (by simpa [xN] using hz)
 rw [hlen] at hq
 rw [decide_eq_true (by omega), decide_eq_true (by omega)]; rfl
theorem progI_eq (p : MProgram) : progI p = yE p := by
 unfold progI yE wS
 cases ho : xR (xN p.nodes) with
 | false => simp
 | true =>
  have hin := order_in ho
  have h1 : p.nodes.all (xO p.nodes) = ((p.nodes.all fun n => ya p.nodes n (xT n)) && p.nodes.all fun n => n.pats.all fun q => patM q.nodes) := by
   rw [Bool.eq_iff_iff]
   simp only [Bool.and_eq_true, List.all_eq_true]
   constructor
   ·intro h
    refine ⟨fun n hn => ?_, fun n hn => ?_⟩
    ·have := h n hn
     unfold xO at this
     simp only [Bool.and_eq_true] at this
     exact this.1.2
    ·have := h n hn
     unfold xO at this
     simp only [Bool.and_eq_true, List.all_eq_true] at this
     exact this.2
   ·intro ⟨h1, h2⟩ n hn
    unfold xO
    simp only [Bool.and_eq_true, List.all_eq_true]
    exact ⟨⟨hin n hn, h1 n hn⟩, h2 n hn⟩
  rw [h1]
  have h2 : (!(!(decide (1 <= (p.nodes.length : Int)) && decide ((p.nodes.length : Int) <= 600)) || decide (8 < (p.types.length : Int)))) = (decide (1 <= p.nodes.length) && decide (p.nodes.length <= 600) && decide (p.types.length <= 8)) := by
   rw [Bool.eq_iff_iff]
   simp only [Bool.not_eq_true', Bool.or_eq_false_iff, Bool.not_eq_false', Bool.and_eq_true, decide_eq_true_eq, decide_eq_false_iff_not]
   omega
  rw [h2]
  cases decide (1 <= p.nodes.length) <;> cases decide (p.nodes.length <= 600) <;> cases decide (p.types.length <= 8) <;> cases (p.nodes.all fun n => ya p.nodes n (xT n)) <;> cases (p.types.all zW) <;> simp
theorem zw (p : MProgram) (ho : p.ok) (hs : p.sm) : FCon Tryz.prog 14 [.ag p.enc] (fun r _ => r = .s (.bool (yE p))) := by
 rw [<- progI_eq]; exact ZF p ho hs
theorem c_l04NEnd (p : MProgram) (ho : ∀ x ∈ p.nodes, x.ok) (hl : p.nodes.length <= 1000000000) (hks : ∀ x ∈ p.nodes, x.kids.length <= 1000000000) :
  ∀ (N m : Nat), p.nodes.length - m <= N -> m <= 2000000000 -> FCon Tryz.prog 50 [.ag p.enc, .s (.int .i64 m)] (fun r _ => r = .s (.int .i64 (endZ (pEnd (xN p.nodes) N m)))) := by
 have hlen : (xN p.nodes).length = p.nodes.length := by simp
 have out : ∀ (N m : Nat), p.nodes.length <= m -> m <= 2000000000 -> FCon Tryz.prog 50 [.ag p.enc, .s (.int .i64 m)] (fun r _ => r = .s (.int .i64 (endZ (pEnd (xN p.nodes) N m)))) := by
  intro N m hm hm2
  rw [vW _ _ _ (by rw [hlen]; exact hm)]
  refine FI PM Tryz.func50 Tryz.ntmps50 [] rfl rfl ?_
  (have hWf := w1 @MProgram.enc_eq; repeat' (first | refine zS ?_ | refine zI ?_ ?_ | exact zF0 | refine zD fun hb => ?_ | exact zC | refine zT ?_ | fail))
  all_goals (try rfl)
 intro N
 induction N with
 | zero => intro m hm hm2; exact out 0 m (by omega) hm2
 | succ N ih =>
  intro m hm hm2
  by_cases hlt : m < p.nodes.length
  ·have hx := xh MNode.enc p.nodes m hlt
   have he := MNode.enc_eq p.nodes[m]
   have hkl := hks _ (List.getElem_mem hlt)
   rw [vK _ _ _ (by rw [hlen]; exact hlt)]
   have hka : (xN p.nodes)[m]'(by rw [hlen]; exact hlt) = p.nodes[m].kids := by simp [xN]
   rw [hka]
   obtain ⟨R, hR⟩ : ∃ R, yM (pEnd (xN p.nodes) N) p.nodes[m].kids (m + 1) = R := ⟨_, rfl⟩
   rw [hR]
   refine FI PM Tryz.func50 Tryz.ntmps50 [] rfl rfl ?_
   (have hWf := w3 @MProgram.enc_eq @hx @he; repeat' (first | refine zS ?_ | refine zI ?_ ?_ | exact zF0 | refine zD fun hb => ?_ | exact zC | refine zT ?_ | fail))
   refine xk (fun n σ => ∃ j cur : Nat, j <= p.nodes[m].kids.length /\ n = p.nodes[m].kids.length - j /\ m < cur /\ cur <= 2000000000 /\ yM (pEnd (xN p.nodes) N) (p.nodes[m].kids.drop j) cur = R /\ σ.t 2 = .bx 2 0 /\ σ.b 2 = some (.box [.sl 3 (p.types.map MType.enc), .sl 6 (p.nodes.map MNode.enc)]) /\ σ.t 5 = .s (.int .i64 cur) /\ σ.t 20 = yX p.nodes[m].kids /\ σ.t 21 = .s (.int .i64 p.nodes[m].kids.length) /\ σ.t 22 = .s (.int .i64 j)) p.nodes[m].kids.length ⟨0, m + 1, by omega, by omega, by omega, by omega, by rw [List.drop_zero]; exact hR, ?_⟩ ?_
   ·simp only [go_sem, simprocAttr, MProgram.enc_eq, Int.natCast_succ]
    all_goals simp
   ·rintro n σ ⟨j, cur, hj, rfl, hcur, hc2, hp, h2, hb2, h5, h20, h21, h22⟩ K' hK
    by_cases hjl : j < p.nodes[m].kids.length
    ·have gx := xh iE p.nodes[m].kids j hjl
     rw [YD _ j hjl, uI] at hp
     by_cases hkc : p.nodes[m].kids[j] = (cur : Int)
     ·have hw : ym (xN p.nodes) N p.nodes[m].kids[j] cur = pEnd (xN p.nodes) N cur := by unfold ym; rw [if_pos hkc]
      rw [hw] at hp
      have hkn : ((cur : Int) != (cur : Int)) = false := bne_self_eq_false _
      have hcc := ih cur (by omega) hc2
      cases hq : pEnd (xN p.nodes) N cur with
      | none =>
       rw [hq] at hcc hp
       have hcc : FCon Tryz.prog 50 [.ag [.sl 3 (p.types.map MType.enc), .sl 6 (p.nodes.map MNode.enc)], .s (.int .i64 cur)] (fun r _ => r = .s (.int .i64 (-1))) := hcc
       (have hWf := w11 @h2 @hb2 @h5 @h20 @h21 @h22 @gx @xQ @hkc @hkn @MProgram.enc_eq; repeat' (first | refine zS ?_ | refine zI ?_ ?_ | refine zK (hcc) ?_ | exact zF0 | refine zD fun hb => ?_ | exact zC | refine zT ?_ | fail))
       all_goals (rw [<- hp]; rfl)
      | some e1 =>
       rw [hq] at hcc hp
       have hcc : FCon Tryz.prog 50 [.ag [.sl 3 (p.types.map MType.enc), .sl 6 (p.nodes.map MNode.enc)], .s (.int .i64 cur)] (fun r _ => r = .s (.int .i64 (e1 : Int))) := hcc
       have hbd := XI _ _ _ _ hq
       rw [hlen] at hbd
       (have hWf := w11 @h2 @hb2 @h5 @h20 @h21 @h22 @gx @xQ @hkc @hkn @MProgram.enc_eq; repeat' (first | refine zS ?_ | refine zI ?_ ?_ | refine zK (hcc) ?_ | exact zF0 | refine zD fun hb => ?_ | exact zC | refine zT ?_ | fail))
       refine hK (p.nodes[m].kids.length - (j + 1)) _ (by omega) ⟨j + 1, e1, by omega, rfl, by omega, by omega, hp, ?_⟩
       simp only [go_sem, simprocAttr, h2, hb2, h5, h20, h21, h22, Int.natCast_succ]
       all_goals simp
     ·have hw : ym (xN p.nodes) N p.nodes[m].kids[j] cur = none := by unfold ym; rw [if_neg hkc]
      rw [hw] at hp
      have hne : (p.nodes[m].kids[j] != (cur : Int)) = true := by simpa using hkc
      (have hWf := w10 @h2 @hb2 @h5 @h20 @h21 @h22 @gx @xQ @hne @MProgram.enc_eq; repeat' (first | refine zS ?_ | refine zI ?_ ?_ | exact zF0 | refine zD fun hb => ?_ | exact zC | refine zT ?_ | fail))
      all_goals (rw [<- hp]; rfl)
    ·obtain rfl : j = p.nodes[m].kids.length := by omega
     rw [List.drop_eq_nil_of_le (Nat.le_refl _)] at hp
     (have hWf := w6 @h2 @hb2 @h5 @h20 @h21 @h22; repeat' (first | refine zS ?_ | refine zI ?_ ?_ | exact zF0 | refine zD fun hb => ?_ | exact zC | refine zT ?_ | fail))
     rw [<- hp]; rfl
  ·exact out (N + 1) m (by omega) hm2
theorem c_l04Node (p : MProgram) (x : MNode) (ho : x.ok) (hs : x.sm) : FCon Tryz.prog 49 [.ag p.enc, .ag x.enc] (fun r _ => r = .s (.bool (xO p.nodes x))) := by
 obtain ⟨kind, at_, n, s, kids, pats⟩ := x
 obtain ⟨o1, o2, o3, o4, o5, o6⟩ := ho
 obtain ⟨s1, s2, s3⟩ := hs
 by_cases hkd : kind < 1 \/ 19 < kind
 ·have hm : xO p.nodes ⟨kind, at_, n, s, kids, pats⟩ = false := by
   have g : xG p.nodes ⟨kind, at_, n, s, kids, pats⟩ (xT ⟨kind, at_, n, s, kids, pats⟩) = false := by
    unfold xG
    simp only
    repeat' split
    all_goals first
     | omega
     | (rcases hkd with q | q
        ·rw [decide_eq_false (by omega : ¬ 1 <= kind)]; rfl
        ·rw [decide_eq_false (by omega : ¬ kind <= 19)]; simp)
   unfold xO ya
   rw [g]; simp
  rw [hm]
  rcases hkd with hkd | hkd
  ·have h1 : decide (kind < 1) = true := decide_eq_true hkd
   refine FI PM Tryz.func49 Tryz.ntmps49 [(15, 26, [], [], (lin [] [0, 1, 2, 3, 4, 5, 6, 7, 8, 9, 10, 11, 12, 13, 14, 15, 16, 17, 18, 19, 20, 21, 22, 23, 24, 25])), (24, 15, [], [], (lin [] [0, 1, 2, 3, 4, 5, 6, 7, 8, 9, 10, 11, 12, 13, 14])), (26, 11, [], [], (lin [] [0, 1, 2, 3, 4, 5, 6, 7, 8, 9, 10]))] rfl rfl ?_
   (have hWf := w3 @MNode.enc_eq @MProgram.enc_eq @h1; repeat' (first | refine zS ?_ | refine zI ?_ ?_ | exact zF0 | refine zD fun hb => ?_ | exact zC | refine zT ?_ | fail))
   all_goals (first | (done) | (exfalso; simp_all; omega) | trace_state)
  ·have h1 : decide (kind < 1) = false := decide_eq_false (by omega)
   have h2 : decide (kind > 19) = true := decide_eq_true hkd
   refine FI PM Tryz.func49 Tryz.ntmps49 [(15, 26, [], [], (lin [] [0, 1, 2, 3, 4, 5, 6, 7, 8, 9, 10, 11, 12, 13, 14, 15, 16, 17, 18, 19, 20, 21, 22, 23, 24, 25])), (24, 15, [], [], (lin [] [0, 1, 2, 3, 4, 5, 6, 7, 8, 9, 10, 11, 12, 13, 14])), (26, 11, [], [], (lin [] [0, 1, 2, 3, 4, 5, 6, 7, 8, 9, 10]))] rfl rfl ?_
   (have hWf := w4 @MNode.enc_eq @MProgram.enc_eq @h1 @h2; repeat' (first | refine zS ?_ | refine zI ?_ ?_ | exact zF0 | refine zD fun hb => ?_ | exact zC | refine zT ?_ | fail))
   all_goals (first | (done) | (exfalso; simp_all; omega) | trace_state)
 ·rcases (show kind = 1 \/ kind = 2 \/ kind = 3 \/ kind = 4 \/ kind = 5 \/ kind = 6 \/ kind = 7 \/ kind = 8 \/ kind = 9 \/ kind = 10 \/ kind = 11 \/ kind = 12 \/ kind = 13 \/ kind = 14 \/ kind = 15 \/ kind = 16 \/ kind = 17 \/ kind = 18 \/ kind = 19 by omega) with rfl | rfl | rfl | rfl | rfl | rfl | rfl | rfl | rfl | rfl | rfl | rfl | rfl | rfl | rfl | rfl | rfl | rfl | rfl
  ·exact YL p 1 (.inl ⟨rfl, by decide⟩) at_ n s kids pats s2.1 s3.1 o4 o6 s3
  ·exact YL p 2 (.inr (.inl ⟨rfl, by decide⟩)) at_ n s kids pats s2.1 s3.1 o4 o6 s3
  ·exact YL p 3 (.inr (.inr (⟨rfl, by decide⟩))) at_ n s kids pats s2.1 s3.1 o4 o6 s3
  ·exact l04Node_4 p 4 (⟨rfl, by decide⟩) at_ n s kids pats s2.1 s3.1 o4 o6 s3
  ·exact YM p 5 (.inl ⟨rfl, by decide⟩) at_ n s kids pats s2.1 s3.1 o4 o6 s3
  ·exact YN p 6 (.inl ⟨rfl, by decide⟩) at_ n s kids pats s2.1 s3.1 o4 o6 s3
  ·exact YM p 7 (.inr (.inl ⟨rfl, by decide⟩)) at_ n s kids pats s2.1 s3.1 o4 o6 s3
  ·exact l04Node_8 p 8 (⟨rfl, by decide⟩) at_ n s kids pats s2.1 s3.1 o4 o6 s3
  ·exact YN p 9 (.inr (.inl ⟨rfl, by decide⟩)) at_ n s kids pats s2.1 s3.1 o4 o6 s3
  ·exact YN p 10 (.inr (.inr (⟨rfl, by decide⟩))) at_ n s kids pats s2.1 s3.1 o4 o6 s3
  ·exact YO p 11 (.inl ⟨rfl, by decide⟩) at_ n s kids pats s2.1 s3.1 o4 o6 s3
  ·exact YO p 12 (.inr (.inl ⟨rfl, by decide⟩)) at_ n s kids pats s2.1 s3.1 o4 o6 s3
  ·exact xaB p 13 (⟨rfl, by decide⟩) at_ n s kids pats s2.1 s3.1 o4 o6 s3
  ·exact YO p 14 (.inr (.inr (⟨rfl, by decide⟩))) at_ n s kids pats s2.1 s3.1 o4 o6 s3
  ·exact YM p 15 (.inr (.inr (⟨rfl, by decide⟩))) at_ n s kids pats s2.1 s3.1 o4 o6 s3
  ·exact UV p 16 (.inl ⟨rfl, by decide⟩) at_ n s kids pats s2.1 s3.1 o4 o6 s3
  ·exact UV p 17 (.inr (⟨rfl, by decide⟩)) at_ n s kids pats s2.1 s3.1 o4 o6 s3
  ·exact UW p 18 (.inl ⟨rfl, by decide⟩) at_ n s kids pats s2.1 s3.1 o4 o6 s3
  ·exact UW p 19 (.inr (⟨rfl, by decide⟩)) at_ n s kids pats s2.1 s3.1 o4 o6 s3
theorem headM {p : MProgram} (h : ((p.nodes.length : Int) < 1 \/ 600 < (p.nodes.length : Int)) \/ 8 < (p.types.length : Int)) : yE p = false := by
 unfold yE
 rcases h with (h | h) | h
 ·rw [decide_eq_false (by omega : ¬ 1 <= p.nodes.length)]; rfl
 ·rw [decide_eq_false (by omega : ¬ p.nodes.length <= 600)]; simp
 ·rw [decide_eq_false (by omega : ¬ p.types.length <= 8)]; simp
theorem headM_ok {p : MProgram} (h : (1 <= (p.nodes.length : Int) /\ (p.nodes.length : Int) <= 600) /\ (p.types.length : Int) <= 8) : yE p = (p.types.all zW && p.nodes.all (xO p.nodes) && xR (xN p.nodes)) := by
 unfold yE
 rw [decide_eq_true (by omega : 1 <= p.nodes.length), decide_eq_true (by omega : p.nodes.length <= 600), decide_eq_true (by omega : p.types.length <= 8)]
 rfl
theorem typeS_bad {t : MType} (h : (((yl t.name = false \/ t.params < 0) \/ 2 < t.params) \/ (t.cons.length : Int) < 1) \/ 8 < (t.cons.length : Int)) : zW t = false := U5 (by
 rcases h with (((h | h) | h) | h) | h
 ·exact .inl (.inl h)
 ·exact .inl (.inr (.inl h))
 ·exact .inl (.inr (.inr h))
 ·exact .inr (.inl h)
 ·exact .inr (.inr h))
theorem typeS_ok {t : MType} (h : (((yl t.name = true /\ 0 <= t.params) /\ t.params <= 2) /\ 1 <= (t.cons.length : Int)) /\ (t.cons.length : Int) <= 8) : zW t = t.cons.all (yj t.params) := Qj ⟨⟨h.1.1.1.1, h.1.1.1.2, h.1.1.2⟩, h.1.2, h.2⟩
theorem WC (p : MProgram) (ho : p.ok) (hs : p.sm) : FCon Tryz.prog 15 [.ag p.enc] (fun r _ => r = .s (.bool (yE p))) := by
 obtain ⟨o1, o2⟩ := ho
 obtain ⟨s1, s2⟩ := hs
 have hln := s2.1
 have hlt := s1.1
 have hkl : ∀ x ∈ p.nodes, x.kids.length <= 1000000000 := fun x hx => by have := (s2.2 x hx).2.1.1; omega
 refine FI PM Tryz.func15 Tryz.ntmps15 [(21, 5, [], [], (lin [] [0, 1, 2, 3, 4]))] rfl rfl ?_
 (have hWf := w1 @MProgram.enc_eq; repeat' (first | refine zS ?_ | refine zI ?_ ?_ | exact zF0 | refine zD fun hb => ?_ | exact zC | refine zT ?_ | fail))
 ·rw [headM hb]
 ·rw [headM_ok hb]
  refine xk (fun n σ => ∃ k : Nat, k <= p.types.length /\ n = p.types.length - k /\ σ.t 1 = .bx 1 0 /\ σ.b 1 = some (.box [.sl 3 (p.types.map MType.enc), .sl 6 (p.nodes.map MNode.enc)]) /\ σ.t 26 = .sl 3 (p.types.map MType.enc) /\ σ.t 27 = .s (.int .i64 p.types.length) /\ σ.t 28 = .s (.int .i64 k) /\ ∀ x ∈ p.types.take k, zW x = true) p.types.length ⟨0, by omega, by omega, ?_⟩ ?_
  ·simp only [go_sem, simprocAttr, MProgram.enc_eq, Int.natCast_succ, Int.natCast_zero]
   all_goals simp
  ·rintro n σ ⟨k, hk, rfl, h1, hb1, h26, h27, h28, hno⟩ K' hK
   by_cases hlk : k < p.types.length
   ·have hx := xh MType.enc p.types k hlk
    have he := MType.enc_eq p.types[k]
    have hok := o1 _ (List.getElem_mem hlk)
    have hsm := s1.2 _ (List.getElem_mem hlk)
    have hcl := hsm.2.1
    (have hWf := w7 @h1 @hb1 @h26 @h27 @h28 @hx @he; repeat' (first | refine zS ?_ | refine zI ?_ ?_ | refine zK (xr p.types[k].name hok.1) ?_ | exact zF0 | refine zD fun hb => ?_ | exact zC | refine zT ?_ | fail))
    ·rw [y9 hlk (typeS_bad hb)]; rfl
    ·have hto := typeS_ok hb
     refine xk (fun n σ => ∃ j : Nat, j <= p.types[k].cons.length /\ n = p.types[k].cons.length - j /\ σ.t 1 = .bx 1 0 /\ σ.b 1 = some (.box [.sl 3 (p.types.map MType.enc), .sl 6 (p.nodes.map MNode.enc)]) /\ σ.t 26 = .sl 3 (p.types.map MType.enc) /\ σ.t 27 = .s (.int .i64 p.types.length) /\ σ.t 28 = .s (.int .i64 k) /\
      σ.t 4 = .bx 4 0 /\ σ.b 4 = some (.box [.s (.string p.types[k].name), .s (.int .i64 p.types[k].params), .sl 3 (p.types[k].cons.map MCon.enc)]) /\ σ.t 59 = .sl 3 (p.types[k].cons.map MCon.enc) /\ σ.t 60 = .s (.int .i64 p.types[k].cons.length) /\ σ.t 61 = .s (.int .i64 j) /\ ∀ c ∈ p.types[k].cons.take j, yj p.types[k].params c = true) p.types[k].cons.length ⟨0, by omega, by omega, ?_⟩ ?_
     ·simp only [go_sem, simprocAttr, h1, hb1, h26, h27, h28, Int.natCast_succ, Int.natCast_zero]
      all_goals simp
     ·rintro n σ ⟨j, hj, rfl, g1, gb1, g26, g27, g28, g4, gb4, g59, g60, g61, hno2⟩ K'' hK''
      by_cases hlj : j < p.types[k].cons.length
      ·have gx := xh MCon.enc p.types[k].cons j hlj
       have ge := MCon.enc_eq p.types[k].cons[j]
       have hcn := c_l04Con p.types[k].cons[j] p.types[k].params (hok.2.2 _ (List.getElem_mem hlj)) (hsm.2.2 _ (List.getElem_mem hlj))
       rw [ge] at hcn
       cases hq : yj p.types[k].params p.types[k].cons[j] with
       | false =>
        rw [hq] at hcn
        (have hWf := w12 @g1 @gb1 @g26 @g27 @g28 @g4 @gb4 @g59 @g60 @g61 @gx @ge; repeat' (first | refine zS ?_ | refine zI ?_ ?_ | refine zK (hcn) ?_ | exact zF0 | refine zD fun hb => ?_ | exact zC | refine zT ?_ | fail))
        rw [y9 hlk (by rw [hto]; exact y9 hlj hq)]; rfl
       | true =>
        rw [hq] at hcn
        (have hWf := w12 @g1 @gb1 @g26 @g27 @g28 @g4 @gb4 @g59 @g60 @g61 @gx @ge; repeat' (first | refine zS ?_ | refine zI ?_ ?_ | refine zK (hcn) ?_ | exact zF0 | refine zD fun hb => ?_ | exact zC | refine zT ?_ | fail))
        refine hK'' (p.types[k].cons.length - (j + 1)) _ (by omega) ⟨j + 1, by omega, rfl, ?_⟩
        simp only [go_sem, simprocAttr, g1, gb1, g26, g27, g28, g4, gb4, g59, g60, Int.natCast_succ]
        exact xL hlj hno2 hq
      ·obtain rfl : j = p.types[k].cons.length := by omega
       (have hWf := w8 @g1 @gb1 @g26 @g27 @g28 @g59 @g60 @g61; repeat' (first | refine zS ?_ | refine zI ?_ ?_ | exact zF0 | refine zD fun hb => ?_ | exact zC | refine zT ?_ | fail))
       refine hK (p.types.length - (k + 1)) _ (by omega) ⟨k + 1, by omega, rfl, ?_⟩
       simp only [go_sem, simprocAttr, g1, gb1, g26, g27, g28, Int.natCast_succ, Int.natCast_zero]
       exact xL hlk hno (by rw [hto]; exact x6 hno2)
   ·obtain rfl : k = p.types.length := by omega
    have hty := x6 hno
    rw [hty, Bool.true_and]
    clear hK
    (have hWf := w5 @h1 @hb1 @h26 @h27 @h28; repeat' (first | refine zS ?_ | refine zI ?_ ?_ | exact zF0 | refine zD fun hb => ?_ | exact zC | refine zT ?_ | fail))
    refine xk (fun n σ => ∃ k : Nat, k <= p.nodes.length /\ n = p.nodes.length - k /\ σ.t 1 = .bx 1 0 /\ σ.b 1 = some (.box [.sl 3 (p.types.map MType.enc), .sl 6 (p.nodes.map MNode.enc)]) /\ σ.t 73 = .sl 6 (p.nodes.map MNode.enc) /\ σ.t 74 = .s (.int .i64 p.nodes.length) /\ σ.t 75 = .s (.int .i64 k) /\ ∀ x ∈ p.nodes.take k, xO p.nodes x = true) p.nodes.length ⟨0, by omega, by omega, ?_⟩ ?_
    ·simp only [go_sem, simprocAttr, h1, hb1, Int.natCast_succ, Int.natCast_zero]
     all_goals simp
    ·rintro n σ ⟨k, hk, rfl, g1, gb1, g73, g74, g75, hno2⟩ K'' hK''
     by_cases hlj : k < p.nodes.length
     ·have gx := xh MNode.enc p.nodes k hlj
      have ge := MNode.enc_eq p.nodes[k]
      have hcn := c_l04Node p p.nodes[k] (o2 _ (List.getElem_mem hlj)) (s2.2 _ (List.getElem_mem hlj))
      rw [ge, MProgram.enc_eq] at hcn
      cases hq : xO p.nodes p.nodes[k] with
      | false =>
       rw [hq] at hcn
       (have hWf := w7 @g1 @gb1 @g73 @g74 @g75 @gx @ge; repeat' (first | refine zS ?_ | refine zI ?_ ?_ | refine zK (hcn) ?_ | exact zF0 | refine zD fun hb => ?_ | exact zC | refine zT ?_ | fail))
       rw [y9 hlj hq]; rfl
      | true =>
       rw [hq] at hcn
       (have hWf := w7 @g1 @gb1 @g73 @g74 @g75 @gx @ge; repeat' (first | refine zS ?_ | refine zI ?_ ?_ | refine zK (hcn) ?_ | exact zF0 | refine zD fun hb => ?_ | exact zC | refine zT ?_ | fail))
       refine hK'' (p.nodes.length - (k + 1)) _ (by omega) ⟨k + 1, by omega, rfl, ?_⟩
       simp only [go_sem, simprocAttr, g1, gb1, g73, g74, Int.natCast_succ]
       exact xL hlj hno2 hq
     ·obtain rfl : k = p.nodes.length := by omega
      rw [x6 hno2, Bool.true_and]
      have hcc := c_l04NEnd p o2 (by omega) hkl p.nodes.length 0 (by omega) (by omega)
      have hor : xR (xN p.nodes) = (endZ (pEnd (xN p.nodes) p.nodes.length 0) == (p.nodes.length : Int)) := by
       rw [ZL]
       unfold xR
       rw [show (xN p.nodes).length = p.nodes.length by simp]
      have hcc : FCon Tryz.prog 50 [.ag [.sl 3 (p.types.map MType.enc), .sl 6 (p.nodes.map MNode.enc)], .s (.int .i64 0)] (fun r _ => r = .s (.int .i64 (endZ (pEnd (xN p.nodes) p.nodes.length 0)))) := hcc
      (have hWf := w5 @g1 @gb1 @g73 @g74 @g75; repeat' (first | refine zS ?_ | refine zI ?_ ?_ | refine zK (hcc) ?_ | exact zF0 | refine zD fun hb => ?_ | exact zC | refine zT ?_ | fail))
      rw [hor]
end Go.Proofs.YtgcdbmcoendcdaaGreat
namespace Go.Proofs.YtgcdbmcoendcdaaGreat
open Go.RowKit Arb
theorem Z7 : ∀ t : ET, okT t -> t.size <= 1000000 -> All (fun a _ => Xg a.pats) t := fun t => by
 induction t using Arb.ind with
 | h a l ih =>
  intro ok hz
  refine .mk ⟨?_, fun q hq => ?_⟩ fun t ht => ih t ht (ok.kid t ht) (by have := size_lt (a := a) ht; omega)
  ·have hsl := sizeL_len l
   rw [size_mk] at hz
   rcases ok.root.p0 with k | k
   ·obtain ⟨x, r, rfl, q⟩ := mat_of ok.root.v k
    rw [q]; rw [List.length_cons] at hsl; omega
   ·rw [k]; exact Nat.zero_le _
  ·have := patM_len (ok.root.pm q hq)
   exact ⟨by omega, fun x hx => by have := patM_kids (ok.root.pm q hq) x hx; omega⟩
theorem all_and {P Q : EI -> List ET -> Prop} : ∀ t : ET, All P t -> All Q t -> All (fun a l => P a l /\ Q a l) t := fun t => by
 induction t using Arb.ind with
 | h a l ih => intro h1 h2; exact .mk ⟨h1.root, h2.root⟩ fun x hx => ih x hx (h1.kid x hx) (h2.kid x hx)
theorem fdN_of {p : MProgram} (hs : p.sm) {t : ET} (ht : p.nodes = Arb.lay EI.node 0 t) (ok : okT t) (hz : t.size <= 600) : All fdN t := by
 have hA := At.zero (f := EI.node) t
 rw [<- ht] at hA
 exact all_and t (all_of t 0 hA fun j x l hj => (hs.2.2 _ (List.mem_of_getElem? hj.root)).1) (Z7 t ok (by omega))
theorem typesB_of {p : MProgram} (hs : p.sm) : typesB p.types := ⟨hs.1.1, fun t ht => ⟨(hs.1.2 t ht).2.1, fun c hc => ((hs.1.2 t ht).2.2 c hc).2.1⟩⟩
def z6 (p : MProgram) (t : ET) : MProgram := ⟨p.types, Arb.lay EI.node 0 (xv t)⟩
theorem Yq (p : MProgram) (ho : p.ok) (hs : p.sm) (hp : yE p = true) (t : ET) (ht : p.nodes = Arb.lay EI.node 0 t) (ok : okT t) (hz : t.size <= 600) : FCon Tryz.prog 9 [.ag p.enc] (fun r _ => r = .ag (z6 p t).own) := by
 have hc := zw p ho hs
 rw [hp, MProgram.enc_eq] at hc
 have hA := At.zero (f := EI.node) t
 rw [<- ht] at hA
 have hg := c_grow p.nodes (by have := congrArg List.length ht; rw [Arb.lay_len] at this; omega) t 0 hA (Z7 t ok (by omega))
 have hg : FCon Tryz.prog 31 [.sl 6 (p.nodes.map MNode.enc), .s (.int .i64 0)] (fun r _ => r = exO t) := hg
 have hr := c_rewrite t ok (fdN_of hs ht ok hz) (by omega)
 have hfz := uF t
 have htb := typesB_of hs
 have hpo := QC p.types htb (xv t) (Z7 _ (vV t ok) (by omega)) (by omega)
 have hpr : (z6 p t).own = [.osl 63 3 (p.types.map MType.own), .osl 55 6 ((Arb.lay EI.node 0 (xv t)).map MNode.own)] := rfl
 rw [hpr, MProgram.enc_eq]
 obtain ⟨a, l⟩ := t
 obtain ⟨d, r, hd⟩ : ∃ d r, xv (.mk a l) = .mk d r := ⟨_, _, Arb.eta _⟩
 rw [hd] at hr hpo ⊢
 rw [XE] at hg hr
 rw [xM] at hr hpo
 refine FI PM Tryz.func9 Tryz.ntmps9 [(3, 6, [4, 5], [(4, 0), (4, 1), (5, 0), (5, 1)], (lin [4, 5] [0, 1, 2, 3, 4, 5]))] rfl rfl ?_
 (have hWf := f0; repeat' (first | refine zS ?_ | refine zI ?_ ?_ | refine zK (hc) ?_ | refine zX (FCon.noout hg) ?_ | ((with_reducible apply xc); refine zG (hg) ?_) | refine zX (hr) ?_ | ((with_reducible apply xc); refine xm (hr) ?_; rintro _ _ ⟨rfl, rfl⟩) | refine zK (hpo) ?_ | exact zF0 | refine zD fun hb => ?_ | exact zC | refine zT ?_ | fail))
theorem FCon.agN2 {P : Program} {f : FuncId} {args : List D} {e1 e2 k1 k2 : Nat} (h : FCon P f args (fun r _ => r = .ag [.nil, .nil])) : FCon P f args (fun r _ => r = .ag [.osl e1 k1 [], .osl e2 k2 []]) := h.wk fun r o e => by
 subst e
 refine ⟨_, rfl, fun g w v q => ?_⟩
 obtain ⟨us, rfl, hl, hc⟩ := q
 refine ⟨us, rfl, by simpa using hl, fun l x u hx hu => ?_⟩
 match l, hx with
 | 0, hx => exact (by simpa using hx) ▸ Rep.nil_osl e1 k1 (hc 0 _ u rfl hu)
 | 1, hx => exact (by simpa using hx) ▸ Rep.nil_osl e2 k2 (hc 1 _ u rfl hu)
theorem XA (p : MProgram) (ho : p.ok) (hs : p.sm) (hp : yE p = false) : FCon Tryz.prog 9 [.ag p.enc] (fun r _ => r = .ag (MProgram.mk [] []).own) := by
 have hc := zw p ho hs
 rw [hp, MProgram.enc_eq] at hc
 rw [MProgram.enc_eq]
 refine FCon.agN2 ?_
 refine FI PM Tryz.func9 Tryz.ntmps9 [(3, 6, [4, 5], [(4, 0), (4, 1), (5, 0), (5, 1)], (lin [4, 5] [0, 1, 2, 3, 4, 5]))] rfl rfl ?_
 (have hWf := f0; repeat' (first | refine zS ?_ | refine zI ?_ ?_ | refine zK (hc) ?_ | exact zF0 | refine zD fun hb => ?_ | exact zC | refine zT ?_ | fail))
theorem Vq {P : EI -> Prop} (hl : ∀ a x y b, yV a x y = some b -> P b) : ∀ t : ET, All (fun a _ => P a) t -> All (fun a _ => P a) (xv t) := fun t => by
 induction t using Arb.ind with
 | h a l ih =>
  intro h
  have hk : ∀ x ∈ l.map xv, All (fun a _ => P a) x := fun x hx => by
   obtain ⟨y, hy, rfl⟩ := List.mem_map.1 hx
   exact ih y hy (h.kid y hy)
  show All _ (yU id id (.mk a l))
  rw [zN]
  refine wQ (P := All (fun a _ => P a)) a (l.map xv) ?_ ?_ ?_
  ·exact All.mk h.root hk
  ·intro x y b _ _ hb
   exact All.mk (hl _ _ _ _ hb) (by simp)
  ·intro x hx _
   exact hk x hx
def smA (a : EI) : Prop := a.s.size <= 1048576 /\ smS MPat.sm a.pats
theorem X1 {a x y b : EI} (h : yV a x y = some b) : b.pats = [] := by
 unfold yV at h
 split at h
 ·split at h
  ·injection h with h; subst h; rfl
  ·cases h
 ·split at h
  ·split at h
   ·injection h with h; subst h; rfl
   ·split at h
    ·injection h with h; subst h; rfl
    ·cases h
   ·cases h
  ·cases h
theorem lay_all {P : EI -> Prop} {t : ET} (h : All (fun a _ => P a) t) {n : MNode} (hn : n ∈ Arb.lay EI.node 0 t) : ∃ a l, n = a.node l /\ P a /\ l.length <= t.size := by
 obtain ⟨j, hj, rfl⟩ := List.getElem_of_mem hn
 rw [Arb.lay_len] at hj
 obtain ⟨a, l, hA, hO⟩ := at_of t 0 (At.zero (f := EI.node) t) h j (Nat.zero_le _) (by omega)
 have := (List.getElem?_eq_some_iff.1 hA.root).2
 refine ⟨a, _, this, hO.root, ?_⟩
 have h1 := hA.bd
 rw [Arb.lay_len, size_mk] at h1
 have := sizeL_len l
 rw [idxs_len]; omega
theorem xat {p : MProgram} (hs : p.sm) {t : ET} (ht : p.nodes = Arb.lay EI.node 0 t) (ok : okT t) (hz : t.size <= 600) : (z6 p t).sm := by
 have hA := At.zero (f := EI.node) t
 rw [<- ht] at hA
 have h1 : All (fun a _ => smA a) t := all_of t 0 hA fun j x l hj => by
  have := hs.2.2 _ (List.mem_of_getElem? hj.root)
  exact ⟨this.1, this.2.2⟩
 have h2 : All (fun a _ => smA a) (xv t) := Vq (fun a x y b h => ⟨(ZM (r := []) (l := []) h).1, by rw [X1 h]; exact ⟨by simp, by simp⟩⟩) t h1
 have hfz := uF t
 refine ⟨hs.1, by show (Arb.lay EI.node 0 (xv t)).length <= _; rw [Arb.lay_len]; omega, fun n hn => ?_⟩
 obtain ⟨a, l, rfl, ⟨s1, s2⟩, s3⟩ := lay_all h2 hn
 exact ⟨s1, ⟨by show l.length <= _; omega, fun _ _ => trivial⟩, s2⟩
end Go.Proofs.YtgcdbmcoendcdaaGreat
namespace Go.Proofs.YtgcdbmcoendcdaaGreat
open Arb
theorem xas {a x y b : EI} (h : yV a x y = some b) : b.kind = 1 \/ b.kind = 2 \/ b.kind = 4 := by
 unfold yV at h
 split at h
 ·split at h
  ·injection h with h; subst h; exact .inr (.inl rfl)
  ·cases h
 ·split at h
  ·split at h
   ·injection h with h; subst h; exact .inr (.inr rfl)
   ·split at h
    ·injection h with h; subst h; exact .inl rfl
    ·cases h
   ·cases h
  ·cases h
section
variable {α : Type} (inf : α -> EI) (mk : EI -> α)
theorem QL (a : α) (l : List (Arb α)) : x9 inf mk a l = .mk a l \/ (∃ x ∈ l, x9 inf mk a l = x) \/ ∃ b : EI, x9 inf mk a l = .mk (mk b) [] /\ (b.kind = 1 \/ b.kind = 2 \/ b.kind = 4) := by
 unfold x9
 split
 ·split
  ·split
   ·rename_i h
    exact .inr (.inr ⟨_, rfl, xas h⟩)
   ·exact .inl rfl
  ·exact .inl rfl
 ·split
  ·split
   ·split
    ·exact .inr (.inl ⟨_, by simp, rfl⟩)
    ·split
     ·exact .inr (.inl ⟨_, by simp, rfl⟩)
     ·exact .inl rfl
   ·exact .inl rfl
  ·split
   ·split
    ·split
     ·exact .inr (.inl ⟨_, by simp, rfl⟩)
     ·exact .inl rfl
    ·exact .inl rfl
   ·split
    ·split
     ·split
      ·exact .inr (.inl ⟨_, by simp, rfl⟩)
      ·exact .inl rfl
     ·exact .inl rfl
    ·exact .inl rfl
theorem xar {b : α} (h : (inf b).kind = 1 \/ (inf b).kind = 2 \/ (inf b).kind = 4) : yU inf mk (.mk b []) = .mk b [] := by
 rw [zN, List.map_nil]
 unfold x9
 rw [if_neg (by omega), if_neg (by omega), if_neg (by omega), if_neg (by omega)]
theorem xau (hm : ∀ b, inf (mk b) = b) (a : α) (l : List (Arb α)) (h : ∀ x ∈ l, yU inf mk x = x) : yU inf mk (x9 inf mk a l) = x9 inf mk a l := by
 have h0 : yU inf mk (.mk a l) = x9 inf mk a l := by
  rw [zN, (List.map_congr_left fun x hx => h x hx : l.map (yU inf mk) = l.map id), List.map_id]
 rcases QL inf mk a l with q | ⟨x, hx, q⟩ | ⟨b, q, hb⟩
 ·rw [q] at h0 ⊢; exact h0
 ·rw [q]; exact h x hx
 ·rw [q]; exact xar inf mk (by rw [hm]; exact hb)
theorem QK (hm : ∀ b, inf (mk b) = b) : ∀ t : Arb α, yU inf mk (yU inf mk t) = yU inf mk t := fun t => by
 induction t using Arb.ind with
 | h a l ih =>
  rw [zN]
  refine xau inf mk hm a _ fun x hx => ?_
  obtain ⟨y, hy, rfl⟩ := List.mem_map.1 hx
  exact ih y hy
end
end Go.Proofs.YtgcdbmcoendcdaaGreat
namespace Go.Proofs.YtgcdbmcoendcdaaGreat
open Go.RowKit
def eqF {α : Type} (p : α -> α -> Bool) : List α -> List α -> Bool
 | [], [] => true
 | x :: xs, y :: ys => p x y && eqF p xs ys
 | _, _ => false
theorem uq {α : Type} {p : α -> α -> Bool} : ∀ {xs ys : List α}, xs.length ≠ ys.length -> eqF p xs ys = false
 | [], [], h => absurd rfl h
 | [], _ :: _, _ => rfl
 | _ :: _, [], _ => rfl
 | x :: xs, y :: ys, h => by rw [eqF, uq (xs := xs) (ys := ys) (by simpa using h), Bool.and_false]
theorem ud {α : Type} {p : α -> α -> Bool} {xs ys : List α} {k : Nat} (h : k < xs.length) (h2 : k < ys.length) : eqF p (xs.drop k) (ys.drop k) = (p xs[k] ys[k] && eqF p (xs.drop (k + 1)) (ys.drop (k + 1))) := by
 rw [List.drop_eq_getElem_cons h, List.drop_eq_getElem_cons h2, eqF]
theorem uO {α : Type} {p : α -> α -> Bool} {xs ys : List α} (h : xs.length = ys.length) : eqF p (xs.drop xs.length) (ys.drop xs.length) = true := by
 rw [List.drop_length, h, List.drop_length]; rfl
theorem eqF_iff {α : Type} {p : α -> α -> Bool} (hp : ∀ x y, p x y = true ↔ x = y) : ∀ xs ys : List α, eqF p xs ys = true ↔ xs = ys
 | [], [] => by simp [eqF]
 | [], _ :: _ => by simp [eqF]
 | _ :: _, [] => by simp [eqF]
 | x :: xs, y :: ys => by rw [eqF, Bool.and_eq_true, hp, eqF_iff hp xs ys, List.cons.injEq]
theorem ZD (xs ys : List MType) (f : FuncId) (hm : PM.md f = []) (p : MType -> MType -> Bool) (hf : ∀ x ∈ xs, ∀ y ∈ ys, FCon Tryz.prog f [.ag x.enc, .ag y.enc] (fun r _ => r = .s (.bool (p x y)))) :
  FCon Tryz.prog 116 [.sl 3 (xs.map MType.enc), .sl 3 (ys.map MType.enc), .fn f []] (fun r _ => r = .s (.bool (eqF p xs ys))) := by
 refine FI PM Tryz.func116 Tryz.ntmps116 [] rfl rfl ?_
 refine y4 0 rfl trivial fun hlen => ?_
 refine y4 1 rfl trivial fun hlen2 => ?_
 simp only [List.length_map] at hlen hlen2
 by_cases hl : xs.length = ys.length
 ·(have hWf := w1 @hl; repeat' (first | refine zS ?_ | refine zI ?_ ?_ | exact zF0 | refine zD fun hb => ?_ | exact zC | refine zT ?_ | fail))
  refine xk (fun n σ => ∃ k : Nat, k <= xs.length /\ n = xs.length - k /\ σ.t 0 = .sl 3 (xs.map MType.enc) /\ σ.t 1 = .sl 3 (ys.map MType.enc) /\ σ.t 2 = .fn f [] /\ σ.t 15 = .sl 3 (xs.map MType.enc) /\ σ.t 16 = .s (.int .i64 xs.length) /\ σ.t 17 = .s (.int .i64 k) /\ eqF p xs ys = eqF p (xs.drop k) (ys.drop k)) xs.length ⟨0, by omega, by omega, ?_⟩ ?_
  ·simp only [go_sem, simprocAttr, hl, Int.natCast_zero, List.drop_zero]
  ·rintro n σ ⟨k, hk, rfl, h0, h1, h2, h15, h16, h17, he⟩ K' hK
   by_cases hlt : k < xs.length
   ·have hlt2 : k < ys.length := by omega
    have hx := xh MType.enc xs k hlt
    have hy := xh MType.enc ys k hlt2
    have hxe := MType.enc_eq xs[k]
    have hye := MType.enc_eq ys[k]
    have hc := hf xs[k] (List.getElem_mem hlt) ys[k] (List.getElem_mem hlt2)
    rw [hxe, hye] at hc
    rw [ud hlt hlt2] at he
    have hlI : (xs.length : Int) = ys.length := by omega
    cases hp : p xs[k] ys[k] with
    | true =>
     rw [hp] at hc
     rw [hp, Bool.true_and] at he
     (have hWf := w11 @h0 @h1 @h2 @h15 @h16 @h17 @hx @hy @hxe @hye @hm; repeat' (first | refine zS ?_ | refine zI ?_ ?_ | refine zK (hc) ?_ | exact zF0 | refine zD fun hb => ?_ | exact zC | refine zT ?_ | fail))
     refine hK (xs.length - (k + 1)) _ (by omega) ⟨k + 1, by omega, rfl, ?_⟩
     simp only [go_sem, simprocAttr, h0, h1, h2, h15, h16, h17, Int.natCast_succ]
     exact he
    | false =>
     rw [hp] at hc
     rw [hp, Bool.false_and] at he
     (have hWf := w11 @h0 @h1 @h2 @h15 @h16 @h17 @hx @hy @hxe @hye @hm; repeat' (first | refine zS ?_ | refine zI ?_ ?_ | refine zK (hc) ?_ | exact zF0 | refine zD fun hb => ?_ | exact zC | refine zT ?_ | fail))
     exact sB he.symm
   ·obtain rfl : k = xs.length := by omega
    rw [uO hl] at he
    (have hWf := w6 @h0 @h1 @h2 @h15 @h16 @h17; repeat' (first | refine zS ?_ | refine zI ?_ ?_ | exact zF0 | refine zD fun hb => ?_ | exact zC | refine zT ?_ | fail))
    exact sB he.symm
 ·have hne : ((xs.length : Int) != (ys.length : Int)) = true := by simp only [bne_iff_ne, ne_eq]; omega
  (have hWf := w1 @hne; repeat' (first | refine zS ?_ | refine zI ?_ ?_ | exact zF0 | refine zD fun hb => ?_ | exact zC | refine zT ?_ | fail))
  exact sB (uq hl).symm
theorem Ws (xs ys : List MCon) (f : FuncId) (hm : PM.md f = []) (p : MCon -> MCon -> Bool) (hf : ∀ x ∈ xs, ∀ y ∈ ys, FCon Tryz.prog f [.ag x.enc, .ag y.enc] (fun r _ => r = .s (.bool (p x y)))) :
  FCon Tryz.prog 118 [.sl 3 (xs.map MCon.enc), .sl 3 (ys.map MCon.enc), .fn f []] (fun r _ => r = .s (.bool (eqF p xs ys))) := by
 refine FI PM Tryz.func118 Tryz.ntmps118 [] rfl rfl ?_
 refine y4 0 rfl trivial fun hlen => ?_
 refine y4 1 rfl trivial fun hlen2 => ?_
 simp only [List.length_map] at hlen hlen2
 by_cases hl : xs.length = ys.length
 ·(have hWf := w1 @hl; repeat' (first | refine zS ?_ | refine zI ?_ ?_ | exact zF0 | refine zD fun hb => ?_ | exact zC | refine zT ?_ | fail))
  refine xk (fun n σ => ∃ k : Nat, k <= xs.length /\ n = xs.length - k /\ σ.t 0 = .sl 3 (xs.map MCon.enc) /\ σ.t 1 = .sl 3 (ys.map MCon.enc) /\ σ.t 2 = .fn f [] /\ σ.t 15 = .sl 3 (xs.map MCon.enc) /\ σ.t 16 = .s (.int .i64 xs.length) /\ σ.t 17 = .s (.int .i64 k) /\ eqF p xs ys = eqF p (xs.drop k) (ys.drop k)) xs.length ⟨0, by omega, by omega, ?_⟩ ?_
  ·simp only [go_sem, simprocAttr, hl, Int.natCast_zero, List.drop_zero]
  ·rintro n σ ⟨k, hk, rfl, h0, h1, h2, h15, h16, h17, he⟩ K' hK
   by_cases hlt : k < xs.length
   ·have hlt2 : k < ys.length := by omega
    have hx := xh MCon.enc xs k hlt
    have hy := xh MCon.enc ys k hlt2
    have hxe := MCon.enc_eq xs[k]
    have hye := MCon.enc_eq ys[k]
    have hc := hf xs[k] (List.getElem_mem hlt) ys[k] (List.getElem_mem hlt2)
    rw [hxe, hye] at hc
    rw [ud hlt hlt2] at he
    have hlI : (xs.length : Int) = ys.length := by omega
    cases hp : p xs[k] ys[k] with
    | true =>
     rw [hp] at hc
     rw [hp, Bool.true_and] at he
     (have hWf := w11 @h0 @h1 @h2 @h15 @h16 @h17 @hx @hy @hxe @hye @hm; repeat' (first | refine zS ?_ | refine zI ?_ ?_ | refine zK (hc) ?_ | exact zF0 | refine zD fun hb => ?_ | exact zC | refine zT ?_ | fail))
     refine hK (xs.length - (k + 1)) _ (by omega) ⟨k + 1, by omega, rfl, ?_⟩
     simp only [go_sem, simprocAttr, h0, h1, h2, h15, h16, h17, Int.natCast_succ]
     exact he
    | false =>
     rw [hp] at hc
     rw [hp, Bool.false_and] at he
     (have hWf := w11 @h0 @h1 @h2 @h15 @h16 @h17 @hx @hy @hxe @hye @hm; repeat' (first | refine zS ?_ | refine zI ?_ ?_ | refine zK (hc) ?_ | exact zF0 | refine zD fun hb => ?_ | exact zC | refine zT ?_ | fail))
     exact sB he.symm
   ·obtain rfl : k = xs.length := by omega
    rw [uO hl] at he
    (have hWf := w6 @h0 @h1 @h2 @h15 @h16 @h17; repeat' (first | refine zS ?_ | refine zI ?_ ?_ | exact zF0 | refine zD fun hb => ?_ | exact zC | refine zT ?_ | fail))
    exact sB he.symm
 ·have hne : ((xs.length : Int) != (ys.length : Int)) = true := by simp only [bne_iff_ne, ne_eq]; omega
  (have hWf := w1 @hne; repeat' (first | refine zS ?_ | refine zI ?_ ?_ | exact zF0 | refine zD fun hb => ?_ | exact zC | refine zT ?_ | fail))
  exact sB (uq hl).symm
theorem ZC (xs ys : List MNode) (f : FuncId) (hm : PM.md f = []) (p : MNode -> MNode -> Bool) (hf : ∀ x ∈ xs, ∀ y ∈ ys, FCon Tryz.prog f [.ag x.enc, .ag y.enc] (fun r _ => r = .s (.bool (p x y)))) :
  FCon Tryz.prog 121 [.sl 6 (xs.map MNode.enc), .sl 6 (ys.map MNode.enc), .fn f []] (fun r _ => r = .s (.bool (eqF p xs ys))) := by
 refine FI PM Tryz.func121 Tryz.ntmps121 [] rfl rfl ?_
 refine y4 0 rfl trivial fun hlen => ?_
 refine y4 1 rfl trivial fun hlen2 => ?_
 simp only [List.length_map] at hlen hlen2
 by_cases hl : xs.length = ys.length
 ·(have hWf := w1 @hl; repeat' (first | refine zS ?_ | refine zI ?_ ?_ | exact zF0 | refine zD fun hb => ?_ | exact zC | refine zT ?_ | fail))
  refine xk (fun n σ => ∃ k : Nat, k <= xs.length /\ n = xs.length - k /\ σ.t 0 = .sl 6 (xs.map MNode.enc) /\ σ.t 1 = .sl 6 (ys.map MNode.enc) /\ σ.t 2 = .fn f [] /\ σ.t 15 = .sl 6 (xs.map MNode.enc) /\ σ.t 16 = .s (.int .i64 xs.length) /\ σ.t 17 = .s (.int .i64 k) /\ eqF p xs ys = eqF p (xs.drop k) (ys.drop k)) xs.length ⟨0, by omega, by omega, ?_⟩ ?_
  ·simp only [go_sem, simprocAttr, hl, Int.natCast_zero, List.drop_zero]
  ·rintro n σ ⟨k, hk, rfl, h0, h1, h2, h15, h16, h17, he⟩ K' hK
   by_cases hlt : k < xs.length
   ·have hlt2 : k < ys.length := by omega
    have hx := xh MNode.enc xs k hlt
    have hy := xh MNode.enc ys k hlt2
    have hxe := MNode.enc_eq xs[k]
    have hye := MNode.enc_eq ys[k]
    have hc := hf xs[k] (List.getElem_mem hlt) ys[k] (List.getElem_mem hlt2)
    rw [hxe, hye] at hc
    rw [ud hlt hlt2] at he
    have hlI : (xs.length : Int) = ys.length := by omega
    cases hp : p xs[k] ys[k] with
    | true =>
     rw [hp] at hc
     rw [hp, Bool.true_and] at he
     (have hWf := w11 @h0 @h1 @h2 @h15 @h16 @h17 @hx @hy @hxe @hye @hm; repeat' (first | refine zS ?_ | refine zI ?_ ?_ | refine zK (hc) ?_ | exact zF0 | refine zD fun hb => ?_ | exact zC | refine zT ?_ | fail))
     refine hK (xs.length - (k + 1)) _ (by omega) ⟨k + 1, by omega, rfl, ?_⟩
     simp only [go_sem, simprocAttr, h0, h1, h2, h15, h16, h17, Int.natCast_succ]
     exact he
    | false =>
     rw [hp] at hc
     rw [hp, Bool.false_and] at he
     (have hWf := w11 @h0 @h1 @h2 @h15 @h16 @h17 @hx @hy @hxe @hye @hm; repeat' (first | refine zS ?_ | refine zI ?_ ?_ | refine zK (hc) ?_ | exact zF0 | refine zD fun hb => ?_ | exact zC | refine zT ?_ | fail))
     exact sB he.symm
   ·obtain rfl : k = xs.length := by omega
    rw [uO hl] at he
    (have hWf := w6 @h0 @h1 @h2 @h15 @h16 @h17; repeat' (first | refine zS ?_ | refine zI ?_ ?_ | exact zF0 | refine zD fun hb => ?_ | exact zC | refine zT ?_ | fail))
    exact sB he.symm
 ·have hne : ((xs.length : Int) != (ys.length : Int)) = true := by simp only [bne_iff_ne, ne_eq]; omega
  (have hWf := w1 @hne; repeat' (first | refine zS ?_ | refine zI ?_ ?_ | exact zF0 | refine zD fun hb => ?_ | exact zC | refine zT ?_ | fail))
  exact sB (uq hl).symm
theorem Wt (xs ys : List MPat) (f : FuncId) (hm : PM.md f = []) (p : MPat -> MPat -> Bool) (hf : ∀ x ∈ xs, ∀ y ∈ ys, FCon Tryz.prog f [.ag x.enc, .ag y.enc] (fun r _ => r = .s (.bool (p x y)))) :
  FCon Tryz.prog 124 [.sl 1 (xs.map MPat.enc), .sl 1 (ys.map MPat.enc), .fn f []] (fun r _ => r = .s (.bool (eqF p xs ys))) := by
 refine FI PM Tryz.func124 Tryz.ntmps124 [] rfl rfl ?_
 refine y4 0 rfl trivial fun hlen => ?_
 refine y4 1 rfl trivial fun hlen2 => ?_
 simp only [List.length_map] at hlen hlen2
 by_cases hl : xs.length = ys.length
 ·(have hWf := w1 @hl; repeat' (first | refine zS ?_ | refine zI ?_ ?_ | exact zF0 | refine zD fun hb => ?_ | exact zC | refine zT ?_ | fail))
  refine xk (fun n σ => ∃ k : Nat, k <= xs.length /\ n = xs.length - k /\ σ.t 0 = .sl 1 (xs.map MPat.enc) /\ σ.t 1 = .sl 1 (ys.map MPat.enc) /\ σ.t 2 = .fn f [] /\ σ.t 15 = .sl 1 (xs.map MPat.enc) /\ σ.t 16 = .s (.int .i64 xs.length) /\ σ.t 17 = .s (.int .i64 k) /\ eqF p xs ys = eqF p (xs.drop k) (ys.drop k)) xs.length ⟨0, by omega, by omega, ?_⟩ ?_
  ·simp only [go_sem, simprocAttr, hl, Int.natCast_zero, List.drop_zero]
  ·rintro n σ ⟨k, hk, rfl, h0, h1, h2, h15, h16, h17, he⟩ K' hK
   by_cases hlt : k < xs.length
   ·have hlt2 : k < ys.length := by omega
    have hx := xh MPat.enc xs k hlt
    have hy := xh MPat.enc ys k hlt2
    have hxe := MPat.enc_eq xs[k]
    have hye := MPat.enc_eq ys[k]
    have hc := hf xs[k] (List.getElem_mem hlt) ys[k] (List.getElem_mem hlt2)
    rw [hxe, hye] at hc
    rw [ud hlt hlt2] at he
    have hlI : (xs.length : Int) = ys.length := by omega
    cases hp : p xs[k] ys[k] with
    | true =>
     rw [hp] at hc
     rw [hp, Bool.true_and] at he
     (have hWf := w11 @h0 @h1 @h2 @h15 @h16 @h17 @hx @hy @hxe @hye @hm; repeat' (first | refine zS ?_ | refine zI ?_ ?_ | refine zK (hc) ?_ | exact zF0 | refine zD fun hb => ?_ | exact zC | refine zT ?_ | fail))
     refine hK (xs.length - (k + 1)) _ (by omega) ⟨k + 1, by omega, rfl, ?_⟩
     simp only [go_sem, simprocAttr, h0, h1, h2, h15, h16, h17, Int.natCast_succ]
     exact he
    | false =>
     rw [hp] at hc
     rw [hp, Bool.false_and] at he
     (have hWf := w11 @h0 @h1 @h2 @h15 @h16 @h17 @hx @hy @hxe @hye @hm; repeat' (first | refine zS ?_ | refine zI ?_ ?_ | refine zK (hc) ?_ | exact zF0 | refine zD fun hb => ?_ | exact zC | refine zT ?_ | fail))
     exact sB he.symm
   ·obtain rfl : k = xs.length := by omega
    rw [uO hl] at he
    (have hWf := w6 @h0 @h1 @h2 @h15 @h16 @h17; repeat' (first | refine zS ?_ | refine zI ?_ ?_ | exact zF0 | refine zD fun hb => ?_ | exact zC | refine zT ?_ | fail))
    exact sB he.symm
 ·have hne : ((xs.length : Int) != (ys.length : Int)) = true := by simp only [bne_iff_ne, ne_eq]; omega
  (have hWf := w1 @hne; repeat' (first | refine zS ?_ | refine zI ?_ ?_ | exact zF0 | refine zD fun hb => ?_ | exact zC | refine zT ?_ | fail))
  exact sB (uq hl).symm
theorem Zo (xs ys : List DPNode) (f : FuncId) (hm : PM.md f = []) (p : DPNode -> DPNode -> Bool) (hf : ∀ x ∈ xs, ∀ y ∈ ys, FCon Tryz.prog f [.ag x.enc, .ag y.enc] (fun r _ => r = .s (.bool (p x y)))) :
  FCon Tryz.prog 188 [.sl 4 (xs.map DPNode.enc), .sl 4 (ys.map DPNode.enc), .fn f []] (fun r _ => r = .s (.bool (eqF p xs ys))) := by
 refine FI PM Tryz.func188 Tryz.ntmps188 [] rfl rfl ?_
 refine y4 0 rfl trivial fun hlen => ?_
 refine y4 1 rfl trivial fun hlen2 => ?_
 simp only [List.length_map] at hlen hlen2
 by_cases hl : xs.length = ys.length
 ·(have hWf := w1 @hl; repeat' (first | refine zS ?_ | refine zI ?_ ?_ | exact zF0 | refine zD fun hb => ?_ | exact zC | refine zT ?_ | fail))
  refine xk (fun n σ => ∃ k : Nat, k <= xs.length /\ n = xs.length - k /\ σ.t 0 = .sl 4 (xs.map DPNode.enc) /\ σ.t 1 = .sl 4 (ys.map DPNode.enc) /\ σ.t 2 = .fn f [] /\ σ.t 15 = .sl 4 (xs.map DPNode.enc) /\ σ.t 16 = .s (.int .i64 xs.length) /\ σ.t 17 = .s (.int .i64 k) /\ eqF p xs ys = eqF p (xs.drop k) (ys.drop k)) xs.length ⟨0, by omega, by omega, ?_⟩ ?_
  ·simp only [go_sem, simprocAttr, hl, Int.natCast_zero, List.drop_zero]
  ·rintro n σ ⟨k, hk, rfl, h0, h1, h2, h15, h16, h17, he⟩ K' hK
   by_cases hlt : k < xs.length
   ·have hlt2 : k < ys.length := by omega
    have hx := xh DPNode.enc xs k hlt
    have hy := xh DPNode.enc ys k hlt2
    have hxe := DPNode.enc_eq xs[k]
    have hye := DPNode.enc_eq ys[k]
    have hc := hf xs[k] (List.getElem_mem hlt) ys[k] (List.getElem_mem hlt2)
    rw [hxe, hye] at hc
    rw [ud hlt hlt2] at he
    have hlI : (xs.length : Int) = ys.length := by omega
    cases hp : p xs[k] ys[k] with
    | true =>
     rw [hp] at hc
     rw [hp, Bool.true_and] at he
     (have hWf := w11 @h0 @h1 @h2 @h15 @h16 @h17 @hx @hy @hxe @hye @hm; repeat' (first | refine zS ?_ | refine zI ?_ ?_ | refine zK (hc) ?_ | exact zF0 | refine zD fun hb => ?_ | exact zC | refine zT ?_ | fail))
     refine hK (xs.length - (k + 1)) _ (by omega) ⟨k + 1, by omega, rfl, ?_⟩
     simp only [go_sem, simprocAttr, h0, h1, h2, h15, h16, h17, Int.natCast_succ]
     exact he
    | false =>
     rw [hp] at hc
     rw [hp, Bool.false_and] at he
     (have hWf := w11 @h0 @h1 @h2 @h15 @h16 @h17 @hx @hy @hxe @hye @hm; repeat' (first | refine zS ?_ | refine zI ?_ ?_ | refine zK (hc) ?_ | exact zF0 | refine zD fun hb => ?_ | exact zC | refine zT ?_ | fail))
     exact sB he.symm
   ·obtain rfl : k = xs.length := by omega
    rw [uO hl] at he
    (have hWf := w6 @h0 @h1 @h2 @h15 @h16 @h17; repeat' (first | refine zS ?_ | refine zI ?_ ?_ | exact zF0 | refine zD fun hb => ?_ | exact zC | refine zT ?_ | fail))
    exact sB he.symm
 ·have hne : ((xs.length : Int) != (ys.length : Int)) = true := by simp only [bne_iff_ne, ne_eq]; omega
  (have hWf := w1 @hne; repeat' (first | refine zS ?_ | refine zI ?_ ?_ | exact zF0 | refine zD fun hb => ?_ | exact zC | refine zT ?_ | fail))
  exact sB (uq hl).symm
end Go.Proofs.YtgcdbmcoendcdaaGreat
namespace Go.Proofs.YtgcdbmcoendcdaaGreat
open Go.RowKit Arb
open Classical in
noncomputable def eqB {α : Type} (x y : α) : Bool := decide (x = y)
theorem xZ {α : Type} (x y : α) : eqB x y = true ↔ x = y := by unfold eqB; simp
theorem eqB_self {α : Type} (x : α) : eqB x x = true := (xZ x x).2 rfl
theorem eqB_ne {α : Type} {x y : α} (h : x ≠ y) : eqB x y = false := by unfold eqB; simp [h]
theorem uP {α : Type} (xs ys : List α) : eqF eqB xs ys = eqB xs ys := by
 rw [Bool.eq_iff_iff, eqF_iff xZ, xZ]
theorem Zs (xs ys : List Int) : FCon Tryz.prog 123 [.sl 1 (xs.map iE), .sl 1 (ys.map iE)] (fun r _ => r = .s (.bool (eqB xs ys))) := by
 rw [<- uP]
 refine FI PM Tryz.func123 Tryz.ntmps123 [(6, 8, [], [], (lin [] [0, 1, 2, 3, 4, 5, 6, 7]))] rfl rfl ?_
 refine y4 0 rfl trivial fun hlen => ?_
 refine y4 1 rfl trivial fun hlen2 => ?_
 simp only [List.length_map] at hlen hlen2
 by_cases hl : xs.length = ys.length
 ·(have hWf := w1 @hl; repeat' (first | refine zS ?_ | refine zI ?_ ?_ | exact zF0 | refine zD fun hb => ?_ | exact zC | refine zT ?_ | fail))
  refine xk (fun n σ => ∃ k : Nat, k <= xs.length /\ n = xs.length - k /\ σ.t 0 = .sl 1 (xs.map iE) /\ σ.t 1 = .sl 1 (ys.map iE) /\ σ.t 12 = .s (.int .i64 xs.length) /\ σ.t 13 = .s (.int .i64 k) /\ eqF eqB xs ys = eqF eqB (xs.drop k) (ys.drop k)) xs.length ⟨0, by omega, by omega, ?_⟩ ?_
  ·simp only [go_sem, simprocAttr, hl, Int.natCast_zero, List.drop_zero]
  ·rintro n σ ⟨k, hk, rfl, h0, h1, h12, h13, he⟩ K' hK
   by_cases hlt : k < xs.length
   ·have hlt2 : k < ys.length := by omega
    have hx := xh iE xs k hlt
    have hy := xh iE ys k hlt2
    have hxe : iE xs[k] = [.s (.int .i64 xs[k])] := rfl
    have hye : iE ys[k] = [.s (.int .i64 ys[k])] := rfl
    rw [ud hlt hlt2] at he
    have hlI : (xs.length : Int) = ys.length := by omega
    by_cases hp : xs[k] = ys[k]
    ·have hb : (xs[k] != ys[k]) = false := by simp [hp]
     rw [(xZ _ _).2 hp, Bool.true_and] at he
     (have hWf := w9 @h0 @h1 @h12 @h13 @hx @hy @hxe @hye @hb; repeat' (first | refine zS ?_ | refine zI ?_ ?_ | exact zF0 | refine zD fun hb => ?_ | exact zC | refine zT ?_ | fail))
     refine hK (xs.length - (k + 1)) _ (by omega) ⟨k + 1, by omega, rfl, ?_⟩
     simp only [go_sem, simprocAttr, h0, h1, h12, h13, Int.natCast_succ]
     exact he
    ·have hb : (xs[k] != ys[k]) = true := by simp [hp]
     rw [eqB_ne hp, Bool.false_and] at he
     (have hWf := w9 @h0 @h1 @h12 @h13 @hx @hy @hxe @hye @hb; repeat' (first | refine zS ?_ | refine zI ?_ ?_ | exact zF0 | refine zD fun hb => ?_ | exact zC | refine zT ?_ | fail))
     exact sB he.symm
   ·obtain rfl : k = xs.length := by omega
    rw [uO hl] at he
    (have hWf := w4 @h0 @h1 @h12 @h13; repeat' (first | refine zS ?_ | refine zI ?_ ?_ | exact zF0 | refine zD fun hb => ?_ | exact zC | refine zT ?_ | fail))
    exact sB he.symm
 ·have hne : ((xs.length : Int) != (ys.length : Int)) = true := by simp only [bne_iff_ne, ne_eq]; omega
  (have hWf := w1 @hne; repeat' (first | refine zS ?_ | refine zI ?_ ?_ | exact zF0 | refine zD fun hb => ?_ | exact zC | refine zT ?_ | fail))
  exact sB (uq hl).symm
theorem bytes_eqH {s t : ByteArray} (h : s.data.toList = t.data.toList) : s = t := ByteArray.ext (Array.ext' h)
theorem strEq {s t : ByteArray} : (s.toList == t.toList) = eqB s t := by
 rw [Bool.eq_iff_iff, beq_iff_eq, xZ, ByteArray.toList_eq, ByteArray.toList_eq]
 exact ⟨fun h => bytes_eqH h, fun h => by rw [h]⟩
def tyB (x y : TyI) : Bool := x.v == y.v && (x.name.toList == y.name.toList && x.ar == y.ar)
theorem tyB_iff (x y : TyI) : tyB x y = true ↔ x = y := by
 unfold tyB
 rw [strEq, Bool.and_eq_true, Bool.and_eq_true, beq_iff_eq, beq_iff_eq, xZ]
 obtain ⟨a, b, c⟩ := x
 obtain ⟨a', b', c'⟩ := y
 simp only [TyI.mk.injEq]
theorem tyB_eq (x y : TyI) : tyB x y = eqB x y := by rw [Bool.eq_iff_iff, tyB_iff, xZ]
theorem Qr (xs ys : List TyI) : FCon Tryz.prog 120 [.sl 3 (xs.map TyI.enc), .sl 3 (ys.map TyI.enc)] (fun r _ => r = .s (.bool (eqB xs ys))) := by
 rw [<- uP]
 refine FI PM Tryz.func120 Tryz.ntmps120 [(6, 8, [], [], (lin [] [0, 1, 2, 3, 4, 5, 6, 7]))] rfl rfl ?_
 refine y4 0 rfl trivial fun hlen => ?_
 refine y4 1 rfl trivial fun hlen2 => ?_
 simp only [List.length_map] at hlen hlen2
 by_cases hl : xs.length = ys.length
 ·(have hWf := w1 @hl; repeat' (first | refine zS ?_ | refine zI ?_ ?_ | exact zF0 | refine zD fun hb => ?_ | exact zC | refine zT ?_ | fail))
  refine xk (fun n σ => ∃ k : Nat, k <= xs.length /\ n = xs.length - k /\ σ.t 0 = .sl 3 (xs.map TyI.enc) /\ σ.t 1 = .sl 3 (ys.map TyI.enc) /\ σ.t 12 = .s (.int .i64 xs.length) /\ σ.t 13 = .s (.int .i64 k) /\ eqF eqB xs ys = eqF eqB (xs.drop k) (ys.drop k)) xs.length ⟨0, by omega, by omega, ?_⟩ ?_
  ·simp only [go_sem, simprocAttr, hl, Int.natCast_zero, List.drop_zero]
  ·rintro n σ ⟨k, hk, rfl, h0, h1, h12, h13, he⟩ K' hK
   by_cases hlt : k < xs.length
   ·have hlt2 : k < ys.length := by omega
    have hx := xh TyI.enc xs k hlt
    have hy := xh TyI.enc ys k hlt2
    have hxe := TyI.enc_eq xs[k]
    have hye := TyI.enc_eq ys[k]
    rw [ud hlt hlt2, <- tyB_eq] at he
    have hlI : (xs.length : Int) = ys.length := by omega
    cases hp : tyB xs[k] ys[k] with
    | true =>
     have hq : (xs[k].v == ys[k].v && (xs[k].name.toList == ys[k].name.toList && xs[k].ar == ys[k].ar)) = true := hp
     rw [hp, Bool.true_and] at he
     (have hWf := w9 @h0 @h1 @h12 @h13 @hx @hy @hxe @hye @hq; repeat' (first | refine zS ?_ | refine zI ?_ ?_ | exact zF0 | refine zD fun hb => ?_ | exact zC | refine zT ?_ | fail))
     refine hK (xs.length - (k + 1)) _ (by omega) ⟨k + 1, by omega, rfl, ?_⟩
     simp only [go_sem, simprocAttr, h0, h1, h12, h13, Int.natCast_succ]
     exact he
    | false =>
     have hq : (xs[k].v == ys[k].v && (xs[k].name.toList == ys[k].name.toList && xs[k].ar == ys[k].ar)) = false := hp
     rw [hp, Bool.false_and] at he
     (have hWf := w9 @h0 @h1 @h12 @h13 @hx @hy @hxe @hye @hq; repeat' (first | refine zS ?_ | refine zI ?_ ?_ | exact zF0 | refine zD fun hb => ?_ | exact zC | refine zT ?_ | fail))
     exact sB he.symm
   ·obtain rfl : k = xs.length := by omega
    rw [uO hl] at he
    (have hWf := w4 @h0 @h1 @h12 @h13; repeat' (first | refine zS ?_ | refine zI ?_ ?_ | exact zF0 | refine zD fun hb => ?_ | exact zC | refine zT ?_ | fail))
    exact sB he.symm
 ·have hne : ((xs.length : Int) != (ys.length : Int)) = true := by simp only [bne_iff_ne, ne_eq]; omega
  (have hWf := w1 @hne; repeat' (first | refine zS ?_ | refine zI ?_ ?_ | exact zF0 | refine zD fun hb => ?_ | exact zC | refine zT ?_ | fail))
  exact sB (uq hl).symm
theorem con_eqB (c d : MCon) : eqB c d = (c.name.toList == d.name.toList && (c.has == d.has) && eqB c.arg d.arg) := by
 rw [strEq, Bool.eq_iff_iff, Bool.and_eq_true, Bool.and_eq_true, xZ, xZ, xZ, beq_iff_eq]
 obtain ⟨a, b, x⟩ := c
 obtain ⟨a', b', x'⟩ := d
 simp only [MCon.mk.injEq]
 exact ⟨fun h => ⟨⟨h.1, h.2.1⟩, h.2.2⟩, fun h => ⟨h.1.1, h.1.2, h.2⟩⟩
theorem c_sameCon (c d : MCon) : FCon Tryz.prog 119 [.ag c.enc, .ag d.enc] (fun r _ => r = .s (.bool (eqB c d))) := by
 rw [con_eqB]
 have hc := MCon.enc_eq c
 have hd := MCon.enc_eq d
 refine FI PM Tryz.func119 Tryz.ntmps119 [] rfl rfl ?_
 (have hWf := w2 @hc @hd; repeat' (first | refine zS ?_ | refine zI ?_ ?_ | refine zK (Qr c.arg d.arg) ?_ | exact zF0 | refine zD fun hb => ?_ | exact zC | refine zT ?_ | fail))
 all_goals refine sB ?_
 all_goals simp_all
theorem typ_eqB (c d : MType) : eqB c d = (c.name.toList == d.name.toList && (c.params == d.params) && eqB c.cons d.cons) := by
 rw [strEq, Bool.eq_iff_iff, Bool.and_eq_true, Bool.and_eq_true, xZ, xZ, xZ, beq_iff_eq]
 obtain ⟨a, b, x⟩ := c
 obtain ⟨a', b', x'⟩ := d
 simp only [MType.mk.injEq]
 exact ⟨fun h => ⟨⟨h.1, h.2.1⟩, h.2.2⟩, fun h => ⟨h.1.1, h.1.2, h.2⟩⟩
theorem c_sameTyp (c d : MType) : FCon Tryz.prog 117 [.ag c.enc, .ag d.enc] (fun r _ => r = .s (.bool (eqB c d))) := by
 rw [typ_eqB]
 have hc := MType.enc_eq c
 have hd := MType.enc_eq d
 have e := Ws c.cons d.cons 119 rfl eqB (fun x _ y _ => c_sameCon x y)
 rw [uP] at e
 refine FI PM Tryz.func117 Tryz.ntmps117 [] rfl rfl ?_
 (have hWf := w2 @hc @hd; repeat' (first | refine zS ?_ | refine zI ?_ ?_ | refine zK (e) ?_ | exact zF0 | refine zD fun hb => ?_ | exact zC | refine zT ?_ | fail))
 all_goals refine sB ?_
 all_goals simp_all
theorem QF (xs ys : List MType) : FCon Tryz.prog 51 [.sl 3 (xs.map MType.enc), .sl 3 (ys.map MType.enc)] (fun r _ => r = .s (.bool (eqB xs ys))) := by
 have e := ZD xs ys 117 rfl eqB (fun x _ y _ => c_sameTyp x y)
 rw [uP] at e
 refine FI PM Tryz.func51 Tryz.ntmps51 [] rfl rfl ?_
 (have hWf := f0; repeat' (first | refine zS ?_ | refine zI ?_ ?_ | refine zK (e) ?_ | exact zF0 | refine zD fun hb => ?_ | exact zC | refine zT ?_ | fail))
theorem pno_eqB (c d : DPNode) : eqB c d = (c.kind == d.kind && (c.n == d.n) && (c.s.toList == d.s.toList) && eqB c.kids d.kids) := by
 rw [strEq, Bool.eq_iff_iff, Bool.and_eq_true, Bool.and_eq_true, Bool.and_eq_true, xZ, xZ, xZ, beq_iff_eq, beq_iff_eq]
 obtain ⟨a, b, x, y⟩ := c
 obtain ⟨a', b', x', y'⟩ := d
 simp only [DPNode.mk.injEq]
 exact ⟨fun h => ⟨⟨⟨h.1, h.2.1⟩, h.2.2.1⟩, h.2.2.2⟩, fun h => ⟨h.1.1.1, h.1.1.2, h.1.2, h.2⟩⟩
theorem QE (c d : DPNode) : FCon Tryz.prog 189 [.ag c.enc, .ag d.enc] (fun r _ => r = .s (.bool (eqB c d))) := by
 rw [pno_eqB]
 have hc := DPNode.enc_eq c
 have hd := DPNode.enc_eq d
 refine FI PM Tryz.func189 Tryz.ntmps189 [] rfl rfl ?_
 (have hWf := w2 @hc @hd; repeat' (first | refine zS ?_ | refine zI ?_ ?_ | refine zK (Zs c.kids d.kids) ?_ | exact zF0 | refine zD fun hb => ?_ | exact zC | refine zT ?_ | fail))
 all_goals refine sB ?_
 all_goals simp_all
theorem c_samePat (c d : MPat) : FCon Tryz.prog 125 [.ag c.enc, .ag d.enc] (fun r _ => r = .s (.bool (eqB c d))) := by
 have e := Zo c.nodes d.nodes 189 rfl eqB (fun x _ y _ => QE x y)
 have hq : eqB c d = eqB c.nodes d.nodes := by
  rw [Bool.eq_iff_iff, xZ, xZ]
  exact ⟨fun h => by rw [h], fun h => by cases c; cases d; simp_all⟩
 rw [uP, <- hq] at e
 have hc := MPat.enc_eq c
 have hd := MPat.enc_eq d
 refine FI PM Tryz.func125 Tryz.ntmps125 [] rfl rfl ?_
 (have hWf := w2 @hc @hd; repeat' (first | refine zS ?_ | refine zI ?_ ?_ | refine zK (e) ?_ | exact zF0 | refine zD fun hb => ?_ | exact zC | refine zT ?_ | fail))
def nz (x : MNode) : MNode := ⟨x.kind, 0, x.n, x.s, x.kids, x.pats⟩
theorem nod_eqB (c d : MNode) : eqB (nz c) (nz d) = (c.kind == d.kind && (c.n == d.n) && (c.s.toList == d.s.toList) && eqB c.kids d.kids && eqB c.pats d.pats) := by
 rw [strEq, Bool.eq_iff_iff, Bool.and_eq_true, Bool.and_eq_true, Bool.and_eq_true, Bool.and_eq_true, xZ, xZ, xZ, xZ, beq_iff_eq, beq_iff_eq]
 unfold nz
 simp only [MNode.mk.injEq, true_and]
 exact ⟨fun h => ⟨⟨⟨⟨h.1, h.2.1⟩, h.2.2.1⟩, h.2.2.2.1⟩, h.2.2.2.2⟩, fun h => ⟨h.1.1.1.1, h.1.1.1.2, h.1.1.2, h.1.2, h.2⟩⟩
theorem xag (c d : MNode) : FCon Tryz.prog 122 [.ag c.enc, .ag d.enc] (fun r _ => r = .s (.bool (eqB (nz c) (nz d)))) := by
 rw [nod_eqB]
 have hc := MNode.enc_eq c
 have hd := MNode.enc_eq d
 have e := Wt c.pats d.pats 125 rfl eqB (fun x _ y _ => c_samePat x y)
 rw [uP] at e
 refine FI PM Tryz.func122 Tryz.ntmps122 [] rfl rfl ?_
 (have hWf := w2 @hc @hd; repeat' (first | refine zS ?_ | refine zI ?_ ?_ | refine zK (e) ?_ | refine zK (Zs c.kids d.kids) ?_ | exact zF0 | refine zD fun hb => ?_ | exact zC | refine zT ?_ | fail))
 all_goals refine sB ?_
 all_goals simp_all
theorem eqF_map {α β : Type} (f : α -> β) : ∀ xs ys : List α, eqF (fun x y => eqB (f x) (f y)) xs ys = eqB (xs.map f) (ys.map f) := fun xs ys => by
 rw [<- uP]
 induction xs generalizing ys with
 | nil => cases ys <;> rfl
 | cons x xs ih =>
  cases ys with
  | nil => rfl
  | cons y ys => rw [List.map_cons, List.map_cons, eqF, eqF, ih]
theorem QD (xs ys : List MNode) : FCon Tryz.prog 52 [.sl 6 (xs.map MNode.enc), .sl 6 (ys.map MNode.enc)] (fun r _ => r = .s (.bool (eqB (xs.map nz) (ys.map nz)))) := by
 have e := ZC xs ys 122 rfl (fun x y => eqB (nz x) (nz y)) (fun x _ y _ => xag x y)
 rw [eqF_map] at e
 refine FI PM Tryz.func52 Tryz.ntmps52 [] rfl rfl ?_
 (have hWf := f0; repeat' (first | refine zS ?_ | refine zI ?_ ?_ | refine zK (e) ?_ | exact zF0 | refine zD fun hb => ?_ | exact zC | refine zT ?_ | fail))
theorem all_fold2 {P : EI -> Prop} (hl : ∀ a x y b, P a -> yV a x y = some b -> P b) : ∀ t : ET, All (fun a _ => P a) t -> All (fun a _ => P a) (xv t) := fun t => by
 induction t using Arb.ind with
 | h a l ih =>
  intro h
  have hk : ∀ x ∈ l.map xv, All (fun a _ => P a) x := fun x hx => by
   obtain ⟨y, hy, rfl⟩ := List.mem_map.1 hx
   exact ih y hy (h.kid y hy)
  show All _ (yU id id (.mk a l))
  rw [zN]
  refine wQ (P := All (fun a _ => P a)) a (l.map xv) ?_ ?_ ?_
  ·exact All.mk h.root hk
  ·intro x y b _ _ hb
   exact All.mk (hl _ _ _ _ h.root hb) (by simp)
  ·intro x hx _
   exact hk x hx
theorem foldP_at {a x y b : EI} (h : yV a x y = some b) : b.at_ = a.at_ := by
 unfold yV at h
 split at h
 ·split at h
  ·injection h with h; subst h; rfl
  ·cases h
 ·split at h
  ·split at h
   ·injection h with h; subst h; rfl
   ·split at h
    ·injection h with h; subst h; rfl
    ·cases h
   ·cases h
  ·cases h
def okA (a : EI) : Prop := I64 a.at_ /\ ∀ q ∈ a.pats, q.ok
theorem foldPr_ok {p : MProgram} (ho : p.ok) (hs : p.sm) {t : ET} (ht : p.nodes = Arb.lay EI.node 0 t) (ok : okT t) (hz : t.size <= 600) : (z6 p t).ok := by
 have hA := At.zero (f := EI.node) t
 rw [<- ht] at hA
 have h1 : All (fun a _ => okA a) t := all_of t 0 hA fun j x l hj => by
  have := ho.2 _ (List.mem_of_getElem? hj.root)
  exact ⟨this.2.1, this.2.2.2.2.2⟩
 have h2 : All (fun a _ => okA a) (xv t) := all_fold2 (fun a x y b ha h => ⟨by rw [foldP_at h]; exact ha.1, by rw [X1 h]; exact fun q hq => by cases hq⟩) t h1
 have h3 := vV t ok
 have hfz := uF t
 have h4 : All (fun a _ => smA a) t := all_of t 0 hA fun j x l hj => by
  have := hs.2.2 _ (List.mem_of_getElem? hj.root)
  exact ⟨this.1, this.2.2⟩
 have h5 : All (fun a _ => smA a) (xv t) := Vq (fun a x y b h => ⟨(ZM (r := []) (l := []) h).1, by rw [X1 h]; exact ⟨by simp, by simp⟩⟩) t h4
 have h6 : ∀ u : ET, okT u -> All (fun a _ => okA a) u -> All (fun a _ => smA a) u -> All (fun a _ => okA a /\ smA a /\ I64 a.kind /\ I64 a.n) u := fun u => by
  induction u using Arb.ind with
  | h a l ih =>
   intro g1 g2 g3
   refine .mk ⟨g2.root, g3.root, ?_⟩ fun x hx => ih x hx (g1.kid x hx) (g2.kid x hx) (g3.kid x hx)
   have v := g1.root.v
   have n0 := g1.root.n0
   have hk : 1 <= a.kind /\ a.kind <= 19 /\ (a.kind = 1 -> 0 <= a.n /\ a.n <= 4611686018427387903) := by
    cases v with
    | int k e h1 h2 h3 => exact ⟨by omega, by omega, fun _ => ⟨h1, h2⟩⟩
    | _ k => exact ⟨by omega, by omega, fun q => by omega⟩
   refine ⟨⟨by omega, by omega⟩, ?_⟩
   rcases n0 with q | q
   ·have := hk.2.2 q; exact ⟨by omega, by omega⟩
   ·rw [q]; exact ⟨by omega, by omega⟩
 refine ⟨ho.1, fun n hn => ?_⟩
 have hn : n ∈ Arb.lay EI.node 0 (xv t) := hn
 obtain ⟨j, hj, rfl⟩ := List.getElem_of_mem hn
 rw [Arb.lay_len] at hj
 obtain ⟨a, l, hA2, hO⟩ := at_of (xv t) 0 (At.zero (f := EI.node) (xv t)) (h6 _ h3 h2 h5) j (Nat.zero_le _) (by omega)
 have e := (List.getElem?_eq_some_iff.1 hA2.root).2
 rw [e]
 obtain ⟨⟨b1, b2⟩, ⟨b3, b4⟩, b5, b6⟩ := hO.root
 have hbd := hA2.bd
 rw [Arb.lay_len, size_mk] at hbd
 refine ⟨b5, b1, b6, by show a.s.size <= maxLen; unfold maxLen; omega, fun y hy => ?_, b2⟩
 have hy : y ∈ idxs (j + 1) l := hy
 obtain ⟨i, hi, rfl⟩ := List.getElem_of_mem hy
 have hi' : i < l.length := by rw [idxs_len] at hi; exact hi
 rw [idxs_at _ _ _ hi']
 have h7 : sizeL (l.take i) <= sizeL l := by
  have := sizeL_app (l.take i) (l.drop i)
  rw [List.take_append_drop] at this
  omega
 exact ⟨by omega, by omega⟩
theorem Wv (p : MProgram) (ho : p.ok) (hs : p.sm) (hp : yE p = true) : FCon Tryz.prog 16 [.ag p.enc, .ag p.enc] (fun r _ => r = .s (.bool true)) := by
 have i1 := zw p ho hs
 have hpe := MProgram.enc_eq p
 rw [hp, hpe] at i1
 have m1 := QF p.types p.types
 have m2 := QD p.nodes p.nodes
 rw [eqB_self] at m1 m2
 refine FI PM Tryz.func16 Tryz.ntmps16 [] rfl rfl ?_
 (have hWf := w1 @hpe; repeat' (first | refine zS ?_ | refine zI ?_ ?_ | refine zK (i1) ?_ | refine zK (m1) ?_ | refine zK (m2) ?_ | exact zF0 | refine zD fun hb => ?_ | exact zC | refine zT ?_ | fail))
structure TwAns (p q : MProgram) : Prop where
 one : FCon Tryz.prog 9 [.ag p.enc] (fun r _ => r = .ag q.own)
 two : FCon Tryz.prog 9 [.ag q.enc] (fun r _ => r = .ag q.own)
 ok : FCon Tryz.prog 14 [.ag q.enc] (fun r _ => r = .s (.bool (yE p)))
 same : yE p = true -> FCon Tryz.prog 16 [.ag q.enc, .ag q.enc] (fun r _ => r = .s (.bool true))
 nil : yE p = false -> q = ⟨[], []⟩
 pos : yE p = true -> 0 < q.nodes.length
theorem fold_tw (p : MProgram) (ho : p.ok) (hs : p.sm) : ∃ q, TwAns p q := by
 cases hp : yE p with
 | false =>
  have ho0 : (MProgram.mk [] []).ok := ⟨fun _ h => (by cases h), fun _ h => (by cases h)⟩
  have hs0 : (MProgram.mk [] []).sm := ⟨⟨by simp, by simp⟩, by simp, by simp⟩
  have h0 : yE ⟨[], []⟩ = false := by decide
  refine ⟨⟨[], []⟩, XA p ho hs hp, XA _ ho0 hs0 h0, ?_, fun h => (by rw [hp] at h; cases h), fun _ => rfl, fun h => (by rw [hp] at h; cases h)⟩
  have := zw _ ho0 hs0
  rw [h0] at this; rw [hp]; exact this
 | true =>
  obtain ⟨t, ht, ok, hz, h8, hty⟩ := tree_of hp
  have hfz := uF t
  have okq := foldPr_ok ho hs ht ok hz
  have smq : (z6 p t).sm := xat hs ht ok hz
  have pq : yE (z6 p t) = true := prog_of (vV t ok) (by omega) h8 hty
  have htq : (z6 p t).nodes = Arb.lay EI.node 0 (xv t) := rfl
  have h1 := Yq p ho hs hp t ht ok hz
  have h2 := Yq (z6 p t) okq smq pq (xv t) htq (vV t ok) (by omega)
  have e : z6 (z6 p t) (xv t) = z6 p t := by
   unfold z6
   rw [show xv (xv t) = xv t from QK id id (fun _ => rfl) t]
  rw [e] at h2
  refine ⟨z6 p t, h1, h2, ?_, fun _ => Wv _ okq smq pq, fun h => (by rw [hp] at h; cases h), fun _ => ?_⟩
  ·have := zw _ okq smq
   rw [pq] at this; rw [hp]; exact this
  ·rw [htq, Arb.lay_len]; exact size_pos _
theorem c_FnFoldTwice (zs : List UInt8) : FCon Tryz.prog 4 [.sl 1 (zs.map u8E)] (fun r _ => r = .s (.bool true)) := by
 by_cases hz : zs.length <= 1048576
 ·have hb : decide ((zs.length : Int) > 1048576) = false := by simp; omega
  refine FI PM Tryz.func4 Tryz.ntmps4 [(5, 3, [], [], (lin [] [0, 1, 2])), (7, 8, [], [], (lin [] [0, 1, 2, 3, 4, 5, 6, 7]))] rfl rfl ?_
  iterate 5 (refine xA ?_; simp only [go_sem, simprocAttr, hb]; (have hWf := w1 @hb; repeat' (first | refine zY ?_ | refine zI ?_ ?_ | ((with_reducible apply xc); refine xm (Wr zs) ?_; rintro _ _ ⟨p, rT, rN, rfl, hT, hN, ho, hs, hv⟩) | refine zU (Wr zs) ?_ | exact zF1 | refine zD fun hb => ?_ | exact zC | refine zT ?_ | fail)))
  obtain ⟨q, hA⟩ := fold_tw p ho hs
  have h1 := hA.one
  have h2 := hA.two
  have h3 := hA.ok
  have h4 := hA.same
  have h5 := WC p ho hs
  have hn := hA.nil
  have hpz := hA.pos
  clear hA
  rw [MProgram.enc_eq] at h1 h2 h3 h5
  rw [MProgram.enc_eq] at h4
  rw [MProgram.own_eq] at h1 h2
  cases hp : yE p with
  | false =>
   rw [hp] at h3 h5
   have hz : ((q.nodes.length : Int) == 0) = true := by rw [hn hp]; rfl
   (have hWf := w3 @hT @hN @hz; repeat' (first | refine zS ?_ | refine zI ?_ ?_ | refine zK (h1) ?_ | refine zK (h3) ?_ | refine zK (h5) ?_ | exact zF0 | refine zD fun hb => ?_ | exact zC | refine zT ?_ | fail))
  | true =>
   rw [hp] at h3 h5
   replace h4 := h4 hp
   have hz : ((q.nodes.length : Int) == 0) = false := kF' (by have := hpz hp; omega)
   (have hWf := w3 @hT @hN @hz; repeat' (first | refine zS ?_ | refine zI ?_ ?_ | refine zK (h1) ?_ | refine zK (h3) ?_ | refine zK (h5) ?_ | refine zK (h2) ?_ | refine zK (h4) ?_ | exact zF0 | refine zD fun hb => ?_ | exact zC | refine zT ?_ | fail))
 ·have hb : decide ((zs.length : Int) > 1048576) = true := by simp; omega
  refine FI PM Tryz.func4 Tryz.ntmps4 [(5, 3, [], [], (lin [] [0, 1, 2])), (7, 8, [], [], (lin [] [0, 1, 2, 3, 4, 5, 6, 7]))] rfl rfl ?_
  (have hWf := w1 @hb; repeat' (first | refine zS ?_ | refine zI ?_ ?_ | exact zF0 | refine zD fun hb => ?_ | exact zC | refine zT ?_ | fail))
end Go.Proofs.YtgcdbmcoendcdaaGreat
