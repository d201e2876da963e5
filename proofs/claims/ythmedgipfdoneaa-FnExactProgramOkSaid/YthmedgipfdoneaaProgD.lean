import Derived.Test.YthmedgipfdoneaaProgC
import Derived.Test.YthmedgipfdoneaaJunk
/- A node of a program, by kinds: the program's text. Printed by progd.py. -/
-- rules MNode.enc_eq MProgram.enc_eq decide_true decide_false Int.natCast_zero iE_eq List.getD_cons_zero List.getD_nil Int.toNat_zero
namespace Go.Proofs.Ythmedgipfdoneaa
set_option linter.unusedVariables false
set_option linter.unusedSimpArgs false
attribute [local go_sem] eqCs aops_nil aops_cons pivB astep aopP aop1 aop2 aopF aopB aqs_nil aqs_cons aqst condT init_t init_b ev_t ev_i ev_b ev_s ev_nil ev_np ev_f put_t put_b put_n sc_t sc_b setB_t setB_b fr_t fr_b scT scE scC frT frE pAll_i pNot_i pMod_i bodyT oblT oblO lift2 liftE aBin aBinI aBinS aUn aLoad aFieldAddr aField aIndexAddr aIndex aSlice boundE aLen aConv aNil aPick aExtract rowsE intE cE cD eC cellsE aRows rowsK aBuild aFill lay aCaps grd gvT dstAt gdT kmin kmax rnT rnE rnC slT slE tk_2 tk_3 tk_4 tk_5 tk_6 tk_7 tk_8 tk_9 tk_10 tk_11 tk_12 tk_13 tk_14 tk_15 tk_16 tk_17 tk_18 tk_19 tk_21 tk_22 tk_23 tk_24 tk_25 tk_28 tk_29 tk_30 tk_31 tk_35 tk_36 tk_37 tk_38 tk_41 tk_42 tk_43 tk_44 tk_52 tk_53 tk_58 tk_61 tk_66 tk_67 tk_68 tk_70 tk_71 tk_72 tk_73 tk_74 tk_76 tk_77 tk_85 tk_86 tk_87 tk_92 tk_94 tk_95 tk_96 tk_99 tk_112 tk_113 tk_114 tk_116 tk_117 tk_119 tk_120 tk_134 tk_135 tk_142 tk_158 tk_162 tk_163 tk_164 tk_165 tk_166 tk_177 tk_181 tk_182 tk_187 tk_188 tk_189 tk_191 tk_192 tk_193 ck_2 ck_3 ck_4 ck_5 ck_6 ck_7 ck_8 ck_9 ck_10 ck_11 ck_12 ck_13 ck_14 ck_15 ck_16 ck_17 ck_18 ck_19 ck_21 ck_22 ck_23 ck_24 ck_25 ck_28 ck_29 ck_30 ck_31 ck_35 ck_36 ck_37 ck_38 ck_41 ck_42 ck_43 ck_44 ck_52 ck_53 ck_58 ck_61 ck_66 ck_67 ck_68 ck_70 ck_71 ck_72 ck_73 ck_74 ck_76 ck_77 ck_85 ck_86 ck_87 ck_92 ck_94 ck_95 ck_96 ck_99 ck_112 ck_113 ck_114 ck_116 ck_117 ck_119 ck_120 ck_134 ck_135 ck_142 ck_158 ck_162 ck_163 ck_164 ck_165 ck_166 ck_177 ck_181 ck_182 ck_187 ck_188 ck_189 ck_191 ck_192 ck_193 un_2 ik_2 un_3 ik_3 un_4 un_5 ik_5 un_6 ik_6 un_9 un_10 un_11 un_12 ik_12 un_15 un_16 un_17 un_21 ik_21 el_22 un_22 el_23 un_23 el_28 un_28 el_29 un_29 el_35 un_35 el_36 un_36 el_41 un_41 el_42 un_42 sq_53 el_58 un_58 el_61 un_61 el_66 un_66 el_70 un_70 el_85 un_85 sq_92 el_94 un_94 el_99 un_99 el_112 un_112 sq_120 un_142 ik_142 el_162 un_162 sq_177 un_187 ik_187 un_188 ik_188 un_189 ik_189 un_191 un_192 ik_192 un_193 ik_193 List.getElem?_toArray List.getElem?_cons_zero List.getElem?_cons_succ List.drop_zero List.drop_succ_cons List.take_zero List.take_succ_cons List.take_nil List.drop_nil List.map_cons List.map_nil List.append_nil List.nil_append List.cons_append List.length_cons List.length_nil List.length_map List.length_append Nat.zero_add Nat.add_zero Option.map_some Option.map_none Option.bind_some if_true if_false Bool.false_eq_true true_and and_true and_self true_implies implies_true List.toList_toArray Option.some.injEq Int.toNat_natCast bnil beq_true beq_false imp_self beq_self_eq_true bne_self_eq_false Bool.cond_true_left Bool.cond_true_right Bool.cond_false_left Bool.cond_false_right Bool.true_and Bool.and_true Bool.false_and Bool.and_false Bool.true_or Bool.or_true Bool.false_or Bool.or_false Bool.not_true Bool.not_false forall_const id_eq retM aRvs aRv mkRes cnT cnE cnC posT callM callQM aCallee aArgs argE Option.isSome_some MNode.enc_eq MProgram.enc_eq decide_true decide_false Int.natCast_zero iE_eq List.getD_cons_zero List.getD_nil Int.toNat_zero
open Go.RowKit
def primB : List ByteArray := primL.map fun l => ⟨l.toArray⟩
theorem primB_any (s : ByteArray) : (primB.any fun x => s.toList == x.toList) = primM s := by
  unfold primB primM
  rw [List.any_map]
  congr 1
  funext l
  show (s.toList == (⟨l.toArray⟩ : ByteArray).toList) = _
  rw [ByteArray.toList_eq (bs := ⟨l.toArray⟩)]
set_option maxRecDepth 100000 in
theorem c_primOps : FCon Try.prog 104 [] (· = .e (.d (strsD primB))) := by
  refine FCon.intro Try.func104 (by kernel_rfl) rfl Try.ntmps104 rfl (by simp) ?_
  repeat' (first | with_reducible refine ACallQ_no ?_ | (with_reducible first | refine AC_sq ?_ | refine AC_block ?_ | refine AC_skip ?_ | refine AC_exit ?_ | refine AC_ret ?_ | refine K_sn ?_ | refine K_se ?_ | refine K_sr ?_ | refine K_bn ?_ | refine K_br ?_ | refine K_be ?_ | refine K_tn ?_ | refine K_te ?_ | refine K_tr ?_) | with_reducible refine K_bo (by decide) ?_ | ((first | ((with_reducible refine AC_region ?_ ?_); kernel_rfl) | ((with_reducible refine AC_drawG mixed ?_ ?_ ?_ ?_); (decide +kernel); kernel_rfl; kernel_rfl) | (with_reducible first | refine AC_if ?_ | refine ACall_go ?_ | refine ACallQ_go ?_ | refine (?_ : aops _ _ _ _ _) | refine (?_ : aqs _ _ _ _ _))); simp only [go_sem, Nat.reduceAdd, Nat.reduceSub, Nat.reduceMul, Nat.reduceMod, Nat.reduceEqDiff, Nat.reduceBNe, Nat.reduceBEq, Nat.reduceLeDiff, Nat.reduceLT, ↓reduceIte, reduceCtorEq]; fail_if_success (with_reducible refine (?_ : False))) | with_reducible refine And.intro ?_ ?_ | with_reducible refine CallQ_no ?_ | with_reducible exact False.elim | ((with_reducible refine (?_ : _ → AC _ _ _ _ _)); (intro hb; (try simp only [decide_eq_true_eq, decide_eq_false_iff_not, Bool.not_eq_true', Bool.not_eq_false', gt_iff_lt, ge_iff_le, Int.not_lt, Int.not_le] at hb); (try (exfalso; omega)))) | omega | simp only [go_sem, Nat.reduceAdd, Nat.reduceSub, Nat.reduceMul, Nat.reduceMod, Nat.reduceEqDiff, Nat.reduceBNe, Nat.reduceBEq, Nat.reduceLeDiff, Nat.reduceLT, ↓reduceIte, reduceCtorEq] | (intro hg; simp only [Bool.and_eq_true, Bool.or_eq_true, Bool.not_eq_true', Bool.and_eq_false_iff, Bool.or_eq_false_iff, Bool.not_eq_false', decide_eq_true_eq, decide_eq_false_iff_not, Bool.not_not, gt_iff_lt, ge_iff_le, Int.not_lt, Int.not_le] at hg ⊢; first | omega | (simp_all; done) | exact ⟨hg, by omega, by omega⟩ | exact ⟨by simp_all, by omega, by omega⟩ | fail) | ((with_reducible refine (?_ : _ = true → _)); intro hg; first | exact ⟨hg, by omega⟩ | exact ⟨hg, hg, by omega, by omega⟩ | exact ⟨hg, by omega, by omega⟩ | fail))
  ((first | with_reducible refine K_ret [] ?_ ?_ | with_reducible refine K_end [] ?_ ?_); decide; simp only [go_sem, Nat.reduceAdd, Nat.reduceSub, Nat.reduceMul, Nat.reduceMod, Nat.reduceEqDiff, Nat.reduceBNe, Nat.reduceBEq, Nat.reduceLeDiff, Nat.reduceLT, ↓reduceIte, reduceCtorEq])
  rfl
theorem nodeI_bad {nodes : List MNode} {n : MNode} {nb : Bool} (h : n.at_ < 0 ∨ (0 ≤ arI n.kind ∧ (n.kids.length : Int) ≠ arI n.kind) ∨ (n.kind ≠ 13 ∧ 0 < (n.pats.length : Int)) ∨ (n.kind ≠ 1 ∧ n.kind ≠ 3 ∧ n.n ≠ 0)) : nodeI nodes n nb = false := by
  unfold nodeI
  rcases h with h | ⟨h1, h2⟩ | ⟨h1, h2⟩ | ⟨h1, h2, h3⟩
  · rw [decide_eq_false (by omega : ¬ 0 ≤ n.at_)]; simp
  · rw [decide_eq_false (by omega : ¬ arI n.kind < 0), decide_eq_false h2]; simp
  · rw [decide_eq_false h1, decide_eq_false (by omega : ¬ n.pats.length = 0)]; simp
  · rw [decide_eq_false h1, decide_eq_false h2, decide_eq_false h3]; simp
theorem nodeI_ok {nodes : List MNode} {n : MNode} {nb : Bool} (h1 : 0 ≤ n.at_) (h2 : arI n.kind < 0 ∨ (n.kids.length : Int) = arI n.kind) (h3 : n.kind = 13 ∨ (n.pats.length : Int) = 0) (h4 : n.kind = 1 ∨ n.kind = 3 ∨ n.n = 0) : nodeI nodes n nb = kindI nodes n nb := by
  unfold nodeI
  rw [decide_eq_true h1]
  have e2 : (decide (arI n.kind < 0) || decide ((n.kids.length : Int) = arI n.kind)) = true := by simpa using h2
  have e3 : (decide (n.kind = 13) || decide (n.pats.length = 0)) = true := by
    rcases h3 with h | h
    · rw [decide_eq_true h]; rfl
    · rw [decide_eq_true (by omega : n.pats.length = 0)]; simp
  have e4 : (decide (n.kind = 1) || decide (n.kind = 3) || decide (n.n = 0)) = true := by
    rcases h4 with h | h | h <;> simp [h]
  rw [e2, e3, e4]; rfl
set_option maxRecDepth 100000 in
theorem c_prims (s : ByteArray) : FCon Try.prog 89 [.d (strsD primB), .d (.s (.string s))] (· = Tbool (primM s)) := by
  rw [← primB_any]; exact c_Contains_str primB s
set_option maxRecDepth 100000 in
set_option maxHeartbeats 2000000 in
theorem c_nodeOk1 (p : MProgram) (at_ n : Int) (s : ByteArray) (kids : List Int) (pats : List MPat) (hpl : pats.length ≤ 1048576) (hsz : s.size ≤ maxLen) (f : FuncId) (caps : List D) (nb : Bool) (hf : FCon Try.prog f (.ag (MNode.mk 1 at_ n s kids pats).enc :: caps.map .d) (· = Tbool nb)) :
    FCon Try.prog 83 [.ag p.enc, .ag (MNode.mk 1 at_ n s kids pats).enc, .d (.fn f caps)] (· = Tbool (nodeI p.nodes ⟨1, at_, n, s, kids, pats⟩ nb)) := by
  have ha : arI 1 = 0 := by decide
  refine FCon.intro Try.func83 (by kernel_rfl) rfl Try.ntmps83 rfl (by simp) ?_
  repeat' (first | with_reducible refine ACallQ_no ?_ | (with_reducible first | refine AC_sq ?_ | refine AC_block ?_ | refine AC_skip ?_ | refine AC_exit ?_ | refine AC_ret ?_ | refine K_sn ?_ | refine K_se ?_ | refine K_sr ?_ | refine K_bn ?_ | refine K_br ?_ | refine K_be ?_ | refine K_tn ?_ | refine K_te ?_ | refine K_tr ?_) | with_reducible refine K_bo (by decide) ?_ | ((first | ((with_reducible refine AC_region ?_ ?_); kernel_rfl) | ((with_reducible refine AC_drawG mixed ?_ ?_ ?_ ?_); (decide +kernel); kernel_rfl; kernel_rfl) | (with_reducible first | refine AC_if ?_ | refine ACall_go ?_ | refine ACallQ_go ?_ | refine (?_ : aops _ _ _ _ _) | refine (?_ : aqs _ _ _ _ _))); simp only [go_sem, Nat.reduceAdd, Nat.reduceSub, Nat.reduceMul, Nat.reduceMod, Nat.reduceEqDiff, Nat.reduceBNe, Nat.reduceBEq, Nat.reduceLeDiff, Nat.reduceLT, ↓reduceIte, reduceCtorEq, Int.reduceBEq, Int.reduceBNe, Int.reduceLE, Int.reduceLT, Int.reduceEq, Int.reduceNeg, Int.reduceGE, Int.reduceGT, ha]; fail_if_success (with_reducible refine (?_ : False))) | with_reducible refine And.intro ?_ ?_ | (refine CallG_mk (c_arity 1) ?_; rintro _ rfl) | (refine CallQ_mk (c_arity 1) ?_ ?_) | (refine CallG_mk (c_within n 0 4611686018427387903) ?_; rintro _ rfl) | (refine CallQ_mk (c_within n 0 4611686018427387903) ?_ ?_) | with_reducible refine CallQ_no ?_ | with_reducible exact False.elim | ((with_reducible refine (?_ : _ → AC _ _ _ _ _)); (intro hb; (try simp only [decide_eq_true_eq, decide_eq_false_iff_not, Bool.not_eq_true', Bool.not_eq_false', gt_iff_lt, ge_iff_le, Int.not_lt, Int.not_le] at hb); (try (exfalso; omega)))) | omega | simp only [go_sem, Nat.reduceAdd, Nat.reduceSub, Nat.reduceMul, Nat.reduceMod, Nat.reduceEqDiff, Nat.reduceBNe, Nat.reduceBEq, Nat.reduceLeDiff, Nat.reduceLT, ↓reduceIte, reduceCtorEq, Int.reduceBEq, Int.reduceBNe, Int.reduceLE, Int.reduceLT, Int.reduceEq, Int.reduceNeg, Int.reduceGE, Int.reduceGT, ha] | (intro hg; simp only [Bool.and_eq_true, Bool.or_eq_true, Bool.not_eq_true', Bool.and_eq_false_iff, Bool.or_eq_false_iff, Bool.not_eq_false', decide_eq_true_eq, decide_eq_false_iff_not, Bool.not_not, gt_iff_lt, ge_iff_le, Int.not_lt, Int.not_le] at hg ⊢; first | omega | (simp_all; done) | exact ⟨hg, by omega, by omega⟩ | exact ⟨by simp_all, by omega, by omega⟩ | fail) | ((with_reducible refine (?_ : _ = true → _)); intro hg; first | exact ⟨hg, by omega⟩ | exact ⟨hg, hg, by omega, by omega⟩ | exact ⟨hg, by omega, by omega⟩ | fail))
  all_goals
    ((first | with_reducible refine K_ret [] ?_ ?_ | with_reducible refine K_end [] ?_ ?_); decide; simp only [go_sem, Nat.reduceAdd, Nat.reduceSub, Nat.reduceMul, Nat.reduceMod, Nat.reduceEqDiff, Nat.reduceBNe, Nat.reduceBEq, Nat.reduceLeDiff, Nat.reduceLT, ↓reduceIte, reduceCtorEq])
    (try clear hf)
    first
      | rw [nodeI_bad (by
          (try simp only [Bool.or_eq_true, decide_eq_true_eq, bne_iff_ne, ne_eq] at hb)
          dsimp only [List.length_nil, List.length_cons]
          rw [ha]
          omega)]
      | (simp only [Bool.or_eq_false_iff, decide_eq_false_iff_not, bne_eq_false_iff_eq] at hb
         rw [nodeI_ok (by dsimp only; omega) (by dsimp only [List.length_nil, List.length_cons]; rw [ha]; omega) (by dsimp only; omega) (by dsimp only; omega)]
         (try simp only [kindI, Int.reduceEq, or_false, false_or, or_true, true_or, or_self, if_true, if_false, ↓reduceIte, Int.reduceLE, decide_true, Bool.true_and])
         (try (refine congrArg (fun b : Bool => Tbool b) ?_; first | rfl | rfl | (rw [Bool.eq_iff_iff]; simp only [Bool.and_eq_true, decide_eq_true_eq, beq_iff_eq]; omega) | (simp; done) | (rw [Bool.eq_iff_iff]; simp; omega))))
set_option maxRecDepth 100000 in
set_option maxHeartbeats 2000000 in
theorem c_nodeOk2 (p : MProgram) (at_ n : Int) (s : ByteArray) (kids : List Int) (pats : List MPat) (hpl : pats.length ≤ 1048576) (hsz : s.size ≤ maxLen) (f : FuncId) (caps : List D) (nb : Bool) (hf : FCon Try.prog f (.ag (MNode.mk 2 at_ n s kids pats).enc :: caps.map .d) (· = Tbool nb)) :
    FCon Try.prog 83 [.ag p.enc, .ag (MNode.mk 2 at_ n s kids pats).enc, .d (.fn f caps)] (· = Tbool (nodeI p.nodes ⟨2, at_, n, s, kids, pats⟩ nb)) := by
  have ha : arI 2 = 0 := by decide
  refine FCon.intro Try.func83 (by kernel_rfl) rfl Try.ntmps83 rfl (by simp) ?_
  repeat' (first | with_reducible refine ACallQ_no ?_ | (with_reducible first | refine AC_sq ?_ | refine AC_block ?_ | refine AC_skip ?_ | refine AC_exit ?_ | refine AC_ret ?_ | refine K_sn ?_ | refine K_se ?_ | refine K_sr ?_ | refine K_bn ?_ | refine K_br ?_ | refine K_be ?_ | refine K_tn ?_ | refine K_te ?_ | refine K_tr ?_) | with_reducible refine K_bo (by decide) ?_ | ((first | ((with_reducible refine AC_region ?_ ?_); kernel_rfl) | ((with_reducible refine AC_drawG mixed ?_ ?_ ?_ ?_); (decide +kernel); kernel_rfl; kernel_rfl) | (with_reducible first | refine AC_if ?_ | refine ACall_go ?_ | refine ACallQ_go ?_ | refine (?_ : aops _ _ _ _ _) | refine (?_ : aqs _ _ _ _ _))); simp only [go_sem, Nat.reduceAdd, Nat.reduceSub, Nat.reduceMul, Nat.reduceMod, Nat.reduceEqDiff, Nat.reduceBNe, Nat.reduceBEq, Nat.reduceLeDiff, Nat.reduceLT, ↓reduceIte, reduceCtorEq, Int.reduceBEq, Int.reduceBNe, Int.reduceLE, Int.reduceLT, Int.reduceEq, Int.reduceNeg, Int.reduceGE, Int.reduceGT, ha]; fail_if_success (with_reducible refine (?_ : False))) | with_reducible refine And.intro ?_ ?_ | (refine CallG_mk (c_arity 2) ?_; rintro _ rfl) | (refine CallQ_mk (c_arity 2) ?_ ?_) | with_reducible refine CallQ_no ?_ | with_reducible exact False.elim | ((with_reducible refine (?_ : _ → AC _ _ _ _ _)); (intro hb; (try simp only [decide_eq_true_eq, decide_eq_false_iff_not, Bool.not_eq_true', Bool.not_eq_false', gt_iff_lt, ge_iff_le, Int.not_lt, Int.not_le] at hb); (try (exfalso; omega)))) | omega | simp only [go_sem, Nat.reduceAdd, Nat.reduceSub, Nat.reduceMul, Nat.reduceMod, Nat.reduceEqDiff, Nat.reduceBNe, Nat.reduceBEq, Nat.reduceLeDiff, Nat.reduceLT, ↓reduceIte, reduceCtorEq, Int.reduceBEq, Int.reduceBNe, Int.reduceLE, Int.reduceLT, Int.reduceEq, Int.reduceNeg, Int.reduceGE, Int.reduceGT, ha] | (intro hg; simp only [Bool.and_eq_true, Bool.or_eq_true, Bool.not_eq_true', Bool.and_eq_false_iff, Bool.or_eq_false_iff, Bool.not_eq_false', decide_eq_true_eq, decide_eq_false_iff_not, Bool.not_not, gt_iff_lt, ge_iff_le, Int.not_lt, Int.not_le] at hg ⊢; first | omega | (simp_all; done) | exact ⟨hg, by omega, by omega⟩ | exact ⟨by simp_all, by omega, by omega⟩ | fail) | ((with_reducible refine (?_ : _ = true → _)); intro hg; first | exact ⟨hg, by omega⟩ | exact ⟨hg, hg, by omega, by omega⟩ | exact ⟨hg, by omega, by omega⟩ | fail))
  all_goals
    ((first | with_reducible refine K_ret [] ?_ ?_ | with_reducible refine K_end [] ?_ ?_); decide; simp only [go_sem, Nat.reduceAdd, Nat.reduceSub, Nat.reduceMul, Nat.reduceMod, Nat.reduceEqDiff, Nat.reduceBNe, Nat.reduceBEq, Nat.reduceLeDiff, Nat.reduceLT, ↓reduceIte, reduceCtorEq])
    (try clear hf)
    first
      | rw [nodeI_bad (by
          (try simp only [Bool.or_eq_true, decide_eq_true_eq, bne_iff_ne, ne_eq] at hb)
          dsimp only [List.length_nil, List.length_cons]
          rw [ha]
          omega)]
      | (simp only [Bool.or_eq_false_iff, decide_eq_false_iff_not, bne_eq_false_iff_eq] at hb
         rw [nodeI_ok (by dsimp only; omega) (by dsimp only [List.length_nil, List.length_cons]; rw [ha]; omega) (by dsimp only; omega) (by dsimp only; omega)]
         (try simp only [kindI, Int.reduceEq, or_false, false_or, or_true, true_or, or_self, if_true, if_false, ↓reduceIte, Int.reduceLE, decide_true, Bool.true_and])
         (try (refine congrArg (fun b : Bool => Tbool b) ?_; first | rfl | rfl | (rw [Bool.eq_iff_iff]; simp only [Bool.and_eq_true, decide_eq_true_eq, beq_iff_eq]; omega) | (simp; done) | (rw [Bool.eq_iff_iff]; simp; omega))))
set_option maxRecDepth 100000 in
set_option maxHeartbeats 2000000 in
theorem c_nodeOk3 (p : MProgram) (at_ n : Int) (s : ByteArray) (kids : List Int) (pats : List MPat) (hpl : pats.length ≤ 1048576) (hsz : s.size ≤ maxLen) (f : FuncId) (caps : List D) (nb : Bool) (hf : FCon Try.prog f (.ag (MNode.mk 3 at_ n s kids pats).enc :: caps.map .d) (· = Tbool nb)) :
    FCon Try.prog 83 [.ag p.enc, .ag (MNode.mk 3 at_ n s kids pats).enc, .d (.fn f caps)] (· = Tbool (nodeI p.nodes ⟨3, at_, n, s, kids, pats⟩ nb)) := by
  have ha : arI 3 = 0 := by decide
  refine FCon.intro Try.func83 (by kernel_rfl) rfl Try.ntmps83 rfl (by simp) ?_
  repeat' (first | with_reducible refine ACallQ_no ?_ | (with_reducible first | refine AC_sq ?_ | refine AC_block ?_ | refine AC_skip ?_ | refine AC_exit ?_ | refine AC_ret ?_ | refine K_sn ?_ | refine K_se ?_ | refine K_sr ?_ | refine K_bn ?_ | refine K_br ?_ | refine K_be ?_ | refine K_tn ?_ | refine K_te ?_ | refine K_tr ?_) | with_reducible refine K_bo (by decide) ?_ | ((first | ((with_reducible refine AC_region ?_ ?_); kernel_rfl) | ((with_reducible refine AC_drawG mixed ?_ ?_ ?_ ?_); (decide +kernel); kernel_rfl; kernel_rfl) | (with_reducible first | refine AC_if ?_ | refine ACall_go ?_ | refine ACallQ_go ?_ | refine (?_ : aops _ _ _ _ _) | refine (?_ : aqs _ _ _ _ _))); simp only [go_sem, Nat.reduceAdd, Nat.reduceSub, Nat.reduceMul, Nat.reduceMod, Nat.reduceEqDiff, Nat.reduceBNe, Nat.reduceBEq, Nat.reduceLeDiff, Nat.reduceLT, ↓reduceIte, reduceCtorEq, Int.reduceBEq, Int.reduceBNe, Int.reduceLE, Int.reduceLT, Int.reduceEq, Int.reduceNeg, Int.reduceGE, Int.reduceGT, ha]; fail_if_success (with_reducible refine (?_ : False))) | with_reducible refine And.intro ?_ ?_ | (refine CallG_mk (c_arity 3) ?_; rintro _ rfl) | (refine CallQ_mk (c_arity 3) ?_ ?_) | (refine CallG_mk (hf) ?_; rintro _ rfl) | (refine CallQ_mk (hf) ?_ ?_) | with_reducible refine CallQ_no ?_ | with_reducible exact False.elim | ((with_reducible refine (?_ : _ → AC _ _ _ _ _)); (intro hb; (try simp only [decide_eq_true_eq, decide_eq_false_iff_not, Bool.not_eq_true', Bool.not_eq_false', gt_iff_lt, ge_iff_le, Int.not_lt, Int.not_le] at hb); (try (exfalso; omega)))) | omega | simp only [go_sem, Nat.reduceAdd, Nat.reduceSub, Nat.reduceMul, Nat.reduceMod, Nat.reduceEqDiff, Nat.reduceBNe, Nat.reduceBEq, Nat.reduceLeDiff, Nat.reduceLT, ↓reduceIte, reduceCtorEq, Int.reduceBEq, Int.reduceBNe, Int.reduceLE, Int.reduceLT, Int.reduceEq, Int.reduceNeg, Int.reduceGE, Int.reduceGT, ha] | (intro hg; simp only [Bool.and_eq_true, Bool.or_eq_true, Bool.not_eq_true', Bool.and_eq_false_iff, Bool.or_eq_false_iff, Bool.not_eq_false', decide_eq_true_eq, decide_eq_false_iff_not, Bool.not_not, gt_iff_lt, ge_iff_le, Int.not_lt, Int.not_le] at hg ⊢; first | omega | (simp_all; done) | exact ⟨hg, by omega, by omega⟩ | exact ⟨by simp_all, by omega, by omega⟩ | fail) | ((with_reducible refine (?_ : _ = true → _)); intro hg; first | exact ⟨hg, by omega⟩ | exact ⟨hg, hg, by omega, by omega⟩ | exact ⟨hg, by omega, by omega⟩ | fail))
  all_goals
    ((first | with_reducible refine K_ret [] ?_ ?_ | with_reducible refine K_end [] ?_ ?_); decide; simp only [go_sem, Nat.reduceAdd, Nat.reduceSub, Nat.reduceMul, Nat.reduceMod, Nat.reduceEqDiff, Nat.reduceBNe, Nat.reduceBEq, Nat.reduceLeDiff, Nat.reduceLT, ↓reduceIte, reduceCtorEq])
    (try clear hf)
    first
      | rw [nodeI_bad (by
          (try simp only [Bool.or_eq_true, decide_eq_true_eq, bne_iff_ne, ne_eq] at hb)
          dsimp only [List.length_nil, List.length_cons]
          rw [ha]
          omega)]
      | (simp only [Bool.or_eq_false_iff, decide_eq_false_iff_not, bne_eq_false_iff_eq] at hb
         rw [nodeI_ok (by dsimp only; omega) (by dsimp only [List.length_nil, List.length_cons]; rw [ha]; omega) (by dsimp only; omega) (by dsimp only; omega)]
         (try simp only [kindI, Int.reduceEq, or_false, false_or, or_true, true_or, or_self, if_true, if_false, ↓reduceIte, Int.reduceLE, decide_true, Bool.true_and])
         (try (refine congrArg (fun b : Bool => Tbool b) ?_; first | rfl | rfl | (rw [Bool.eq_iff_iff]; simp only [Bool.and_eq_true, decide_eq_true_eq, beq_iff_eq]; omega) | (simp; done) | (rw [Bool.eq_iff_iff]; simp; omega))))
set_option maxRecDepth 100000 in
set_option maxHeartbeats 2000000 in
theorem c_nodeOk4N (p : MProgram) (at_ n : Int) (s : ByteArray) (pats : List MPat) (hpl : pats.length ≤ 1048576) (hsz : s.size ≤ maxLen) (f : FuncId) (caps : List D) (nb : Bool) (hf : FCon Try.prog f (.ag (MNode.mk 4 at_ n s [] pats).enc :: caps.map .d) (· = Tbool nb)) :
    FCon Try.prog 83 [.ag p.enc, .ag (MNode.mk 4 at_ n s [] pats).enc, .d (.fn f caps)] (· = Tbool (nodeI p.nodes ⟨4, at_, n, s, [], pats⟩ nb)) := by
  have ha : arI 4 = -1 := by decide
  refine FCon.intro Try.func83 (by kernel_rfl) rfl Try.ntmps83 rfl (by simp) ?_
  repeat' (first | with_reducible refine ACallQ_no ?_ | (with_reducible first | refine AC_sq ?_ | refine AC_block ?_ | refine AC_skip ?_ | refine AC_exit ?_ | refine AC_ret ?_ | refine K_sn ?_ | refine K_se ?_ | refine K_sr ?_ | refine K_bn ?_ | refine K_br ?_ | refine K_be ?_ | refine K_tn ?_ | refine K_te ?_ | refine K_tr ?_) | with_reducible refine K_bo (by decide) ?_ | ((first | ((with_reducible refine AC_region ?_ ?_); kernel_rfl) | ((with_reducible refine AC_drawG mixed ?_ ?_ ?_ ?_); (decide +kernel); kernel_rfl; kernel_rfl) | (with_reducible first | refine AC_if ?_ | refine ACall_go ?_ | refine ACallQ_go ?_ | refine (?_ : aops _ _ _ _ _) | refine (?_ : aqs _ _ _ _ _))); simp only [go_sem, Nat.reduceAdd, Nat.reduceSub, Nat.reduceMul, Nat.reduceMod, Nat.reduceEqDiff, Nat.reduceBNe, Nat.reduceBEq, Nat.reduceLeDiff, Nat.reduceLT, ↓reduceIte, reduceCtorEq, Int.reduceBEq, Int.reduceBNe, Int.reduceLE, Int.reduceLT, Int.reduceEq, Int.reduceNeg, Int.reduceGE, Int.reduceGT, ha]; fail_if_success (with_reducible refine (?_ : False))) | with_reducible refine And.intro ?_ ?_ | (refine CallG_mk (c_arity 4) ?_; rintro _ rfl) | (refine CallQ_mk (c_arity 4) ?_ ?_) | (refine CallG_mk (c_conShape s hsz 0 _) ?_; rintro _ rfl) | (refine CallQ_mk (c_conShape s hsz 0 _) ?_ ?_) | with_reducible refine CallQ_no ?_ | with_reducible exact False.elim | ((with_reducible refine (?_ : _ → AC _ _ _ _ _)); (intro hb; (try simp only [decide_eq_true_eq, decide_eq_false_iff_not, Bool.not_eq_true', Bool.not_eq_false', gt_iff_lt, ge_iff_le, Int.not_lt, Int.not_le] at hb); (try (exfalso; omega)))) | omega | simp only [go_sem, Nat.reduceAdd, Nat.reduceSub, Nat.reduceMul, Nat.reduceMod, Nat.reduceEqDiff, Nat.reduceBNe, Nat.reduceBEq, Nat.reduceLeDiff, Nat.reduceLT, ↓reduceIte, reduceCtorEq, Int.reduceBEq, Int.reduceBNe, Int.reduceLE, Int.reduceLT, Int.reduceEq, Int.reduceNeg, Int.reduceGE, Int.reduceGT, ha] | (intro hg; simp only [Bool.and_eq_true, Bool.or_eq_true, Bool.not_eq_true', Bool.and_eq_false_iff, Bool.or_eq_false_iff, Bool.not_eq_false', decide_eq_true_eq, decide_eq_false_iff_not, Bool.not_not, gt_iff_lt, ge_iff_le, Int.not_lt, Int.not_le] at hg ⊢; first | omega | (simp_all; done) | exact ⟨hg, by omega, by omega⟩ | exact ⟨by simp_all, by omega, by omega⟩ | fail) | ((with_reducible refine (?_ : _ = true → _)); intro hg; first | exact ⟨hg, by omega⟩ | exact ⟨hg, hg, by omega, by omega⟩ | exact ⟨hg, by omega, by omega⟩ | fail))
  all_goals
    ((first | with_reducible refine K_ret [] ?_ ?_ | with_reducible refine K_end [] ?_ ?_); decide; simp only [go_sem, Nat.reduceAdd, Nat.reduceSub, Nat.reduceMul, Nat.reduceMod, Nat.reduceEqDiff, Nat.reduceBNe, Nat.reduceBEq, Nat.reduceLeDiff, Nat.reduceLT, ↓reduceIte, reduceCtorEq])
    (try clear hf)
    first
      | rw [nodeI_bad (by
          (try simp only [Bool.or_eq_true, decide_eq_true_eq, bne_iff_ne, ne_eq] at hb)
          dsimp only [List.length_nil, List.length_cons]
          rw [ha]
          omega)]
      | (simp only [Bool.or_eq_false_iff, decide_eq_false_iff_not, bne_eq_false_iff_eq] at hb
         rw [nodeI_ok (by dsimp only; omega) (by dsimp only [List.length_nil, List.length_cons]; rw [ha]; omega) (by dsimp only; omega) (by dsimp only; omega)]
         (try simp only [kindI, Int.reduceEq, or_false, false_or, or_true, true_or, or_self, if_true, if_false, ↓reduceIte, Int.reduceLE, decide_true, Bool.true_and])
         (try (refine congrArg (fun b : Bool => Tbool b) ?_; first | rfl | (congr 1; first | rfl | (congr 1; rw [Bool.eq_iff_iff]; simp only [List.length_cons, List.length_nil, decide_eq_true_eq, beq_iff_eq]; omega) | (simp [kidK]; done)) | (rw [Bool.eq_iff_iff]; simp only [Bool.and_eq_true, decide_eq_true_eq, beq_iff_eq]; omega) | (simp; done) | (rw [Bool.eq_iff_iff]; simp; omega))))
set_option maxRecDepth 100000 in
set_option maxHeartbeats 2000000 in
theorem c_nodeOk4C (p : MProgram) (at_ n : Int) (s : ByteArray) (q : Nat) (l : List Int) (hq : q < p.nodes.length) (pats : List MPat) (hpl : pats.length ≤ 1048576) (hsz : s.size ≤ maxLen) (f : FuncId) (caps : List D) (nb : Bool) (hf : FCon Try.prog f (.ag (MNode.mk 4 at_ n s ((q : Int) :: l) pats).enc :: caps.map .d) (· = Tbool nb)) :
    FCon Try.prog 83 [.ag p.enc, .ag (MNode.mk 4 at_ n s ((q : Int) :: l) pats).enc, .d (.fn f caps)] (· = Tbool (nodeI p.nodes ⟨4, at_, n, s, ((q : Int) :: l), pats⟩ nb)) := by
  have hn := getD_map MNode.enc p.nodes q hq
  have hne := MNode.enc_eq p.nodes[q]
  have hkk := fun kd => kidK_at (nodes := p.nodes) (l := (q : Int) :: l) (by simp) hq rfl kd
  have ha : arI 4 = -1 := by decide
  refine FCon.intro Try.func83 (by kernel_rfl) rfl Try.ntmps83 rfl (by simp) ?_
  repeat' (first | with_reducible refine ACallQ_no ?_ | (with_reducible first | refine AC_sq ?_ | refine AC_block ?_ | refine AC_skip ?_ | refine AC_exit ?_ | refine AC_ret ?_ | refine K_sn ?_ | refine K_se ?_ | refine K_sr ?_ | refine K_bn ?_ | refine K_br ?_ | refine K_be ?_ | refine K_tn ?_ | refine K_te ?_ | refine K_tr ?_) | with_reducible refine K_bo (by decide) ?_ | ((first | ((with_reducible refine AC_region ?_ ?_); kernel_rfl) | ((with_reducible refine AC_drawG mixed ?_ ?_ ?_ ?_); (decide +kernel); kernel_rfl; kernel_rfl) | (with_reducible first | refine AC_if ?_ | refine ACall_go ?_ | refine ACallQ_go ?_ | refine (?_ : aops _ _ _ _ _) | refine (?_ : aqs _ _ _ _ _))); simp only [go_sem, Nat.reduceAdd, Nat.reduceSub, Nat.reduceMul, Nat.reduceMod, Nat.reduceEqDiff, Nat.reduceBNe, Nat.reduceBEq, Nat.reduceLeDiff, Nat.reduceLT, ↓reduceIte, reduceCtorEq, Int.reduceBEq, Int.reduceBNe, Int.reduceLE, Int.reduceLT, Int.reduceEq, Int.reduceNeg, Int.reduceGE, Int.reduceGT, ha, hn, hne]; fail_if_success (with_reducible refine (?_ : False))) | with_reducible refine And.intro ?_ ?_ | (refine CallG_mk (c_arity 4) ?_; rintro _ rfl) | (refine CallQ_mk (c_arity 4) ?_ ?_) | (refine CallG_mk (c_conShape s hsz (l.length + 1) _) ?_; rintro _ rfl) | (refine CallQ_mk (c_conShape s hsz (l.length + 1) _) ?_ ?_) | with_reducible refine CallQ_no ?_ | with_reducible exact False.elim | ((with_reducible refine (?_ : _ → AC _ _ _ _ _)); (intro hb; (try simp only [decide_eq_true_eq, decide_eq_false_iff_not, Bool.not_eq_true', Bool.not_eq_false', gt_iff_lt, ge_iff_le, Int.not_lt, Int.not_le] at hb); (try (exfalso; omega)))) | omega | simp only [go_sem, Nat.reduceAdd, Nat.reduceSub, Nat.reduceMul, Nat.reduceMod, Nat.reduceEqDiff, Nat.reduceBNe, Nat.reduceBEq, Nat.reduceLeDiff, Nat.reduceLT, ↓reduceIte, reduceCtorEq, Int.reduceBEq, Int.reduceBNe, Int.reduceLE, Int.reduceLT, Int.reduceEq, Int.reduceNeg, Int.reduceGE, Int.reduceGT, ha, hn, hne] | (intro hg; simp only [Bool.and_eq_true, Bool.or_eq_true, Bool.not_eq_true', Bool.and_eq_false_iff, Bool.or_eq_false_iff, Bool.not_eq_false', decide_eq_true_eq, decide_eq_false_iff_not, Bool.not_not, gt_iff_lt, ge_iff_le, Int.not_lt, Int.not_le] at hg ⊢; first | omega | (simp_all; done) | exact ⟨hg, by omega, by omega⟩ | exact ⟨by simp_all, by omega, by omega⟩ | fail) | ((with_reducible refine (?_ : _ = true → _)); intro hg; first | exact ⟨hg, by omega⟩ | exact ⟨hg, hg, by omega, by omega⟩ | exact ⟨hg, by omega, by omega⟩ | fail))
  all_goals
    ((first | with_reducible refine K_ret [] ?_ ?_ | with_reducible refine K_end [] ?_ ?_); decide; simp only [go_sem, Nat.reduceAdd, Nat.reduceSub, Nat.reduceMul, Nat.reduceMod, Nat.reduceEqDiff, Nat.reduceBNe, Nat.reduceBEq, Nat.reduceLeDiff, Nat.reduceLT, ↓reduceIte, reduceCtorEq])
    (try clear hf)
    first
      | rw [nodeI_bad (by
          (try simp only [Bool.or_eq_true, decide_eq_true_eq, bne_iff_ne, ne_eq] at hb)
          dsimp only [List.length_nil, List.length_cons]
          rw [ha]
          omega)]
      | (simp only [Bool.or_eq_false_iff, decide_eq_false_iff_not, bne_eq_false_iff_eq] at hb
         rw [nodeI_ok (by dsimp only; omega) (by dsimp only [List.length_nil, List.length_cons]; rw [ha]; omega) (by dsimp only; omega) (by dsimp only; omega)]
         (try simp only [kindI, Int.reduceEq, or_false, false_or, or_true, true_or, or_self, if_true, if_false, ↓reduceIte, Int.reduceLE, decide_true, Bool.true_and, hkk])
         (try (refine congrArg (fun b : Bool => Tbool b) ?_; first | rfl | (congr 1; first | rfl | (congr 1; rw [Bool.eq_iff_iff]; simp only [List.length_cons, List.length_nil, decide_eq_true_eq, beq_iff_eq]; omega) | (simp [kidK]; done)) | (rw [Bool.eq_iff_iff]; simp only [Bool.and_eq_true, decide_eq_true_eq, beq_iff_eq]; omega) | (simp; done) | (rw [Bool.eq_iff_iff]; simp; omega))))
set_option maxRecDepth 100000 in
set_option maxHeartbeats 2000000 in
theorem c_nodeOk5 (p : MProgram) (at_ n : Int) (s : ByteArray) (kids : List Int) (pats : List MPat) (hpl : pats.length ≤ 1048576) (hsz : s.size ≤ maxLen) (f : FuncId) (caps : List D) (nb : Bool) (hf : FCon Try.prog f (.ag (MNode.mk 5 at_ n s kids pats).enc :: caps.map .d) (· = Tbool nb)) :
    FCon Try.prog 83 [.ag p.enc, .ag (MNode.mk 5 at_ n s kids pats).enc, .d (.fn f caps)] (· = Tbool (nodeI p.nodes ⟨5, at_, n, s, kids, pats⟩ nb)) := by
  have ha : arI 5 = 1 := by decide
  refine FCon.intro Try.func83 (by kernel_rfl) rfl Try.ntmps83 rfl (by simp) ?_
  repeat' (first | with_reducible refine ACallQ_no ?_ | (with_reducible first | refine AC_sq ?_ | refine AC_block ?_ | refine AC_skip ?_ | refine AC_exit ?_ | refine AC_ret ?_ | refine K_sn ?_ | refine K_se ?_ | refine K_sr ?_ | refine K_bn ?_ | refine K_br ?_ | refine K_be ?_ | refine K_tn ?_ | refine K_te ?_ | refine K_tr ?_) | with_reducible refine K_bo (by decide) ?_ | ((first | ((with_reducible refine AC_region ?_ ?_); kernel_rfl) | ((with_reducible refine AC_drawG mixed ?_ ?_ ?_ ?_); (decide +kernel); kernel_rfl; kernel_rfl) | (with_reducible first | refine AC_if ?_ | refine ACall_go ?_ | refine ACallQ_go ?_ | refine (?_ : aops _ _ _ _ _) | refine (?_ : aqs _ _ _ _ _))); simp only [go_sem, Nat.reduceAdd, Nat.reduceSub, Nat.reduceMul, Nat.reduceMod, Nat.reduceEqDiff, Nat.reduceBNe, Nat.reduceBEq, Nat.reduceLeDiff, Nat.reduceLT, ↓reduceIte, reduceCtorEq, Int.reduceBEq, Int.reduceBNe, Int.reduceLE, Int.reduceLT, Int.reduceEq, Int.reduceNeg, Int.reduceGE, Int.reduceGT, ha]; fail_if_success (with_reducible refine (?_ : False))) | with_reducible refine And.intro ?_ ?_ | (refine CallG_mk (c_arity 5) ?_; rintro _ rfl) | (refine CallQ_mk (c_arity 5) ?_ ?_) | (refine CallG_mk (hf) ?_; rintro _ rfl) | (refine CallQ_mk (hf) ?_ ?_) | with_reducible refine CallQ_no ?_ | with_reducible exact False.elim | ((with_reducible refine (?_ : _ → AC _ _ _ _ _)); (intro hb; (try simp only [decide_eq_true_eq, decide_eq_false_iff_not, Bool.not_eq_true', Bool.not_eq_false', gt_iff_lt, ge_iff_le, Int.not_lt, Int.not_le] at hb); (try (exfalso; omega)))) | omega | simp only [go_sem, Nat.reduceAdd, Nat.reduceSub, Nat.reduceMul, Nat.reduceMod, Nat.reduceEqDiff, Nat.reduceBNe, Nat.reduceBEq, Nat.reduceLeDiff, Nat.reduceLT, ↓reduceIte, reduceCtorEq, Int.reduceBEq, Int.reduceBNe, Int.reduceLE, Int.reduceLT, Int.reduceEq, Int.reduceNeg, Int.reduceGE, Int.reduceGT, ha] | (intro hg; simp only [Bool.and_eq_true, Bool.or_eq_true, Bool.not_eq_true', Bool.and_eq_false_iff, Bool.or_eq_false_iff, Bool.not_eq_false', decide_eq_true_eq, decide_eq_false_iff_not, Bool.not_not, gt_iff_lt, ge_iff_le, Int.not_lt, Int.not_le] at hg ⊢; first | omega | (simp_all; done) | exact ⟨hg, by omega, by omega⟩ | exact ⟨by simp_all, by omega, by omega⟩ | fail) | ((with_reducible refine (?_ : _ = true → _)); intro hg; first | exact ⟨hg, by omega⟩ | exact ⟨hg, hg, by omega, by omega⟩ | exact ⟨hg, by omega, by omega⟩ | fail))
  all_goals
    ((first | with_reducible refine K_ret [] ?_ ?_ | with_reducible refine K_end [] ?_ ?_); decide; simp only [go_sem, Nat.reduceAdd, Nat.reduceSub, Nat.reduceMul, Nat.reduceMod, Nat.reduceEqDiff, Nat.reduceBNe, Nat.reduceBEq, Nat.reduceLeDiff, Nat.reduceLT, ↓reduceIte, reduceCtorEq])
    (try clear hf)
    first
      | rw [nodeI_bad (by
          (try simp only [Bool.or_eq_true, decide_eq_true_eq, bne_iff_ne, ne_eq] at hb)
          dsimp only [List.length_nil, List.length_cons]
          rw [ha]
          omega)]
      | (simp only [Bool.or_eq_false_iff, decide_eq_false_iff_not, bne_eq_false_iff_eq] at hb
         rw [nodeI_ok (by dsimp only; omega) (by dsimp only [List.length_nil, List.length_cons]; rw [ha]; omega) (by dsimp only; omega) (by dsimp only; omega)]
         (try simp only [kindI, Int.reduceEq, or_false, false_or, or_true, true_or, or_self, if_true, if_false, ↓reduceIte, Int.reduceLE, decide_true, Bool.true_and])
         (try (refine congrArg (fun b : Bool => Tbool b) ?_; first | rfl | rfl | (rw [Bool.eq_iff_iff]; simp only [Bool.and_eq_true, decide_eq_true_eq, beq_iff_eq]; omega) | (simp; done) | (rw [Bool.eq_iff_iff]; simp; omega))))
set_option maxRecDepth 100000 in
set_option maxHeartbeats 2000000 in
theorem c_nodeOk6 (p : MProgram) (at_ n : Int) (s : ByteArray) (kids : List Int) (pats : List MPat) (hpl : pats.length ≤ 1048576) (hsz : s.size ≤ maxLen) (f : FuncId) (caps : List D) (nb : Bool) (hf : FCon Try.prog f (.ag (MNode.mk 6 at_ n s kids pats).enc :: caps.map .d) (· = Tbool nb)) :
    FCon Try.prog 83 [.ag p.enc, .ag (MNode.mk 6 at_ n s kids pats).enc, .d (.fn f caps)] (· = Tbool (nodeI p.nodes ⟨6, at_, n, s, kids, pats⟩ nb)) := by
  have ha : arI 6 = 2 := by decide
  refine FCon.intro Try.func83 (by kernel_rfl) rfl Try.ntmps83 rfl (by simp) ?_
  repeat' (first | with_reducible refine ACallQ_no ?_ | (with_reducible first | refine AC_sq ?_ | refine AC_block ?_ | refine AC_skip ?_ | refine AC_exit ?_ | refine AC_ret ?_ | refine K_sn ?_ | refine K_se ?_ | refine K_sr ?_ | refine K_bn ?_ | refine K_br ?_ | refine K_be ?_ | refine K_tn ?_ | refine K_te ?_ | refine K_tr ?_) | with_reducible refine K_bo (by decide) ?_ | ((first | ((with_reducible refine AC_region ?_ ?_); kernel_rfl) | ((with_reducible refine AC_drawG mixed ?_ ?_ ?_ ?_); (decide +kernel); kernel_rfl; kernel_rfl) | (with_reducible first | refine AC_if ?_ | refine ACall_go ?_ | refine ACallQ_go ?_ | refine (?_ : aops _ _ _ _ _) | refine (?_ : aqs _ _ _ _ _))); simp only [go_sem, Nat.reduceAdd, Nat.reduceSub, Nat.reduceMul, Nat.reduceMod, Nat.reduceEqDiff, Nat.reduceBNe, Nat.reduceBEq, Nat.reduceLeDiff, Nat.reduceLT, ↓reduceIte, reduceCtorEq, Int.reduceBEq, Int.reduceBNe, Int.reduceLE, Int.reduceLT, Int.reduceEq, Int.reduceNeg, Int.reduceGE, Int.reduceGT, ha]; fail_if_success (with_reducible refine (?_ : False))) | with_reducible refine And.intro ?_ ?_ | (refine CallG_mk (c_arity 6) ?_; rintro _ rfl) | (refine CallQ_mk (c_arity 6) ?_ ?_) | with_reducible refine CallQ_no ?_ | with_reducible exact False.elim | ((with_reducible refine (?_ : _ → AC _ _ _ _ _)); (intro hb; (try simp only [decide_eq_true_eq, decide_eq_false_iff_not, Bool.not_eq_true', Bool.not_eq_false', gt_iff_lt, ge_iff_le, Int.not_lt, Int.not_le] at hb); (try (exfalso; omega)))) | omega | simp only [go_sem, Nat.reduceAdd, Nat.reduceSub, Nat.reduceMul, Nat.reduceMod, Nat.reduceEqDiff, Nat.reduceBNe, Nat.reduceBEq, Nat.reduceLeDiff, Nat.reduceLT, ↓reduceIte, reduceCtorEq, Int.reduceBEq, Int.reduceBNe, Int.reduceLE, Int.reduceLT, Int.reduceEq, Int.reduceNeg, Int.reduceGE, Int.reduceGT, ha] | (intro hg; simp only [Bool.and_eq_true, Bool.or_eq_true, Bool.not_eq_true', Bool.and_eq_false_iff, Bool.or_eq_false_iff, Bool.not_eq_false', decide_eq_true_eq, decide_eq_false_iff_not, Bool.not_not, gt_iff_lt, ge_iff_le, Int.not_lt, Int.not_le] at hg ⊢; first | omega | (simp_all; done) | exact ⟨hg, by omega, by omega⟩ | exact ⟨by simp_all, by omega, by omega⟩ | fail) | ((with_reducible refine (?_ : _ = true → _)); intro hg; first | exact ⟨hg, by omega⟩ | exact ⟨hg, hg, by omega, by omega⟩ | exact ⟨hg, by omega, by omega⟩ | fail))
  all_goals
    ((first | with_reducible refine K_ret [] ?_ ?_ | with_reducible refine K_end [] ?_ ?_); decide; simp only [go_sem, Nat.reduceAdd, Nat.reduceSub, Nat.reduceMul, Nat.reduceMod, Nat.reduceEqDiff, Nat.reduceBNe, Nat.reduceBEq, Nat.reduceLeDiff, Nat.reduceLT, ↓reduceIte, reduceCtorEq])
    (try clear hf)
    first
      | rw [nodeI_bad (by
          (try simp only [Bool.or_eq_true, decide_eq_true_eq, bne_iff_ne, ne_eq] at hb)
          dsimp only [List.length_nil, List.length_cons]
          rw [ha]
          omega)]
      | (simp only [Bool.or_eq_false_iff, decide_eq_false_iff_not, bne_eq_false_iff_eq] at hb
         rw [nodeI_ok (by dsimp only; omega) (by dsimp only [List.length_nil, List.length_cons]; rw [ha]; omega) (by dsimp only; omega) (by dsimp only; omega)]
         (try simp only [kindI, Int.reduceEq, or_false, false_or, or_true, true_or, or_self, if_true, if_false, ↓reduceIte, Int.reduceLE, decide_true, Bool.true_and])
         (try (refine congrArg (fun b : Bool => Tbool b) ?_; first | rfl | rfl | (rw [Bool.eq_iff_iff]; simp only [Bool.and_eq_true, decide_eq_true_eq, beq_iff_eq]; omega) | (simp; done) | (rw [Bool.eq_iff_iff]; simp; omega))))
set_option maxRecDepth 100000 in
set_option maxHeartbeats 2000000 in
theorem c_nodeOk7 (p : MProgram) (at_ n : Int) (s : ByteArray) (kids : List Int) (pats : List MPat) (hpl : pats.length ≤ 1048576) (hsz : s.size ≤ maxLen) (f : FuncId) (caps : List D) (nb : Bool) (hf : FCon Try.prog f (.ag (MNode.mk 7 at_ n s kids pats).enc :: caps.map .d) (· = Tbool nb)) :
    FCon Try.prog 83 [.ag p.enc, .ag (MNode.mk 7 at_ n s kids pats).enc, .d (.fn f caps)] (· = Tbool (nodeI p.nodes ⟨7, at_, n, s, kids, pats⟩ nb)) := by
  have ha : arI 7 = 2 := by decide
  refine FCon.intro Try.func83 (by kernel_rfl) rfl Try.ntmps83 rfl (by simp) ?_
  repeat' (first | with_reducible refine ACallQ_no ?_ | (with_reducible first | refine AC_sq ?_ | refine AC_block ?_ | refine AC_skip ?_ | refine AC_exit ?_ | refine AC_ret ?_ | refine K_sn ?_ | refine K_se ?_ | refine K_sr ?_ | refine K_bn ?_ | refine K_br ?_ | refine K_be ?_ | refine K_tn ?_ | refine K_te ?_ | refine K_tr ?_) | with_reducible refine K_bo (by decide) ?_ | ((first | ((with_reducible refine AC_region ?_ ?_); kernel_rfl) | ((with_reducible refine AC_drawG mixed ?_ ?_ ?_ ?_); (decide +kernel); kernel_rfl; kernel_rfl) | (with_reducible first | refine AC_if ?_ | refine ACall_go ?_ | refine ACallQ_go ?_ | refine (?_ : aops _ _ _ _ _) | refine (?_ : aqs _ _ _ _ _))); simp only [go_sem, Nat.reduceAdd, Nat.reduceSub, Nat.reduceMul, Nat.reduceMod, Nat.reduceEqDiff, Nat.reduceBNe, Nat.reduceBEq, Nat.reduceLeDiff, Nat.reduceLT, ↓reduceIte, reduceCtorEq, Int.reduceBEq, Int.reduceBNe, Int.reduceLE, Int.reduceLT, Int.reduceEq, Int.reduceNeg, Int.reduceGE, Int.reduceGT, ha]; fail_if_success (with_reducible refine (?_ : False))) | with_reducible refine And.intro ?_ ?_ | (refine CallG_mk (c_arity 7) ?_; rintro _ rfl) | (refine CallQ_mk (c_arity 7) ?_ ?_) | (refine CallG_mk (hf) ?_; rintro _ rfl) | (refine CallQ_mk (hf) ?_ ?_) | with_reducible refine CallQ_no ?_ | with_reducible exact False.elim | ((with_reducible refine (?_ : _ → AC _ _ _ _ _)); (intro hb; (try simp only [decide_eq_true_eq, decide_eq_false_iff_not, Bool.not_eq_true', Bool.not_eq_false', gt_iff_lt, ge_iff_le, Int.not_lt, Int.not_le] at hb); (try (exfalso; omega)))) | omega | simp only [go_sem, Nat.reduceAdd, Nat.reduceSub, Nat.reduceMul, Nat.reduceMod, Nat.reduceEqDiff, Nat.reduceBNe, Nat.reduceBEq, Nat.reduceLeDiff, Nat.reduceLT, ↓reduceIte, reduceCtorEq, Int.reduceBEq, Int.reduceBNe, Int.reduceLE, Int.reduceLT, Int.reduceEq, Int.reduceNeg, Int.reduceGE, Int.reduceGT, ha] | (intro hg; simp only [Bool.and_eq_true, Bool.or_eq_true, Bool.not_eq_true', Bool.and_eq_false_iff, Bool.or_eq_false_iff, Bool.not_eq_false', decide_eq_true_eq, decide_eq_false_iff_not, Bool.not_not, gt_iff_lt, ge_iff_le, Int.not_lt, Int.not_le] at hg ⊢; first | omega | (simp_all; done) | exact ⟨hg, by omega, by omega⟩ | exact ⟨by simp_all, by omega, by omega⟩ | fail) | ((with_reducible refine (?_ : _ = true → _)); intro hg; first | exact ⟨hg, by omega⟩ | exact ⟨hg, hg, by omega, by omega⟩ | exact ⟨hg, by omega, by omega⟩ | fail))
  all_goals
    ((first | with_reducible refine K_ret [] ?_ ?_ | with_reducible refine K_end [] ?_ ?_); decide; simp only [go_sem, Nat.reduceAdd, Nat.reduceSub, Nat.reduceMul, Nat.reduceMod, Nat.reduceEqDiff, Nat.reduceBNe, Nat.reduceBEq, Nat.reduceLeDiff, Nat.reduceLT, ↓reduceIte, reduceCtorEq])
    (try clear hf)
    first
      | rw [nodeI_bad (by
          (try simp only [Bool.or_eq_true, decide_eq_true_eq, bne_iff_ne, ne_eq] at hb)
          dsimp only [List.length_nil, List.length_cons]
          rw [ha]
          omega)]
      | (simp only [Bool.or_eq_false_iff, decide_eq_false_iff_not, bne_eq_false_iff_eq] at hb
         rw [nodeI_ok (by dsimp only; omega) (by dsimp only [List.length_nil, List.length_cons]; rw [ha]; omega) (by dsimp only; omega) (by dsimp only; omega)]
         (try simp only [kindI, Int.reduceEq, or_false, false_or, or_true, true_or, or_self, if_true, if_false, ↓reduceIte, Int.reduceLE, decide_true, Bool.true_and])
         (try (refine congrArg (fun b : Bool => Tbool b) ?_; first | rfl | rfl | (rw [Bool.eq_iff_iff]; simp only [Bool.and_eq_true, decide_eq_true_eq, beq_iff_eq]; omega) | (simp; done) | (rw [Bool.eq_iff_iff]; simp; omega))))
set_option maxRecDepth 100000 in
set_option maxHeartbeats 2000000 in
theorem c_nodeOk8N (p : MProgram) (at_ n : Int) (s : ByteArray) (pats : List MPat) (hpl : pats.length ≤ 1048576) (hsz : s.size ≤ maxLen) (f : FuncId) (caps : List D) (nb : Bool) (hf : FCon Try.prog f (.ag (MNode.mk 8 at_ n s [] pats).enc :: caps.map .d) (· = Tbool nb)) :
    FCon Try.prog 83 [.ag p.enc, .ag (MNode.mk 8 at_ n s [] pats).enc, .d (.fn f caps)] (· = Tbool (nodeI p.nodes ⟨8, at_, n, s, [], pats⟩ nb)) := by
  have ha : arI 8 = 2 := by decide
  refine FCon.intro Try.func83 (by kernel_rfl) rfl Try.ntmps83 rfl (by simp) ?_
  repeat' (first | with_reducible refine ACallQ_no ?_ | (with_reducible first | refine AC_sq ?_ | refine AC_block ?_ | refine AC_skip ?_ | refine AC_exit ?_ | refine AC_ret ?_ | refine K_sn ?_ | refine K_se ?_ | refine K_sr ?_ | refine K_bn ?_ | refine K_br ?_ | refine K_be ?_ | refine K_tn ?_ | refine K_te ?_ | refine K_tr ?_) | with_reducible refine K_bo (by decide) ?_ | ((first | ((with_reducible refine AC_region ?_ ?_); kernel_rfl) | ((with_reducible refine AC_drawG mixed ?_ ?_ ?_ ?_); (decide +kernel); kernel_rfl; kernel_rfl) | (with_reducible first | refine AC_if ?_ | refine ACall_go ?_ | refine ACallQ_go ?_ | refine (?_ : aops _ _ _ _ _) | refine (?_ : aqs _ _ _ _ _))); simp only [go_sem, Nat.reduceAdd, Nat.reduceSub, Nat.reduceMul, Nat.reduceMod, Nat.reduceEqDiff, Nat.reduceBNe, Nat.reduceBEq, Nat.reduceLeDiff, Nat.reduceLT, ↓reduceIte, reduceCtorEq, Int.reduceBEq, Int.reduceBNe, Int.reduceLE, Int.reduceLT, Int.reduceEq, Int.reduceNeg, Int.reduceGE, Int.reduceGT, ha]; fail_if_success (with_reducible refine (?_ : False))) | with_reducible refine And.intro ?_ ?_ | (refine CallG_mk (c_arity 8) ?_; rintro _ rfl) | (refine CallQ_mk (c_arity 8) ?_ ?_) | (refine CallG_mk (hf) ?_; rintro _ rfl) | (refine CallQ_mk (hf) ?_ ?_) | with_reducible refine CallQ_no ?_ | with_reducible exact False.elim | ((with_reducible refine (?_ : _ → AC _ _ _ _ _)); (intro hb; (try simp only [decide_eq_true_eq, decide_eq_false_iff_not, Bool.not_eq_true', Bool.not_eq_false', gt_iff_lt, ge_iff_le, Int.not_lt, Int.not_le] at hb); (try (exfalso; omega)))) | omega | simp only [go_sem, Nat.reduceAdd, Nat.reduceSub, Nat.reduceMul, Nat.reduceMod, Nat.reduceEqDiff, Nat.reduceBNe, Nat.reduceBEq, Nat.reduceLeDiff, Nat.reduceLT, ↓reduceIte, reduceCtorEq, Int.reduceBEq, Int.reduceBNe, Int.reduceLE, Int.reduceLT, Int.reduceEq, Int.reduceNeg, Int.reduceGE, Int.reduceGT, ha] | (intro hg; simp only [Bool.and_eq_true, Bool.or_eq_true, Bool.not_eq_true', Bool.and_eq_false_iff, Bool.or_eq_false_iff, Bool.not_eq_false', decide_eq_true_eq, decide_eq_false_iff_not, Bool.not_not, gt_iff_lt, ge_iff_le, Int.not_lt, Int.not_le] at hg ⊢; first | omega | (simp_all; done) | exact ⟨hg, by omega, by omega⟩ | exact ⟨by simp_all, by omega, by omega⟩ | fail) | ((with_reducible refine (?_ : _ = true → _)); intro hg; first | exact ⟨hg, by omega⟩ | exact ⟨hg, hg, by omega, by omega⟩ | exact ⟨hg, by omega, by omega⟩ | fail))
  all_goals
    ((first | with_reducible refine K_ret [] ?_ ?_ | with_reducible refine K_end [] ?_ ?_); decide; simp only [go_sem, Nat.reduceAdd, Nat.reduceSub, Nat.reduceMul, Nat.reduceMod, Nat.reduceEqDiff, Nat.reduceBNe, Nat.reduceBEq, Nat.reduceLeDiff, Nat.reduceLT, ↓reduceIte, reduceCtorEq])
    (try clear hf)
    first
      | rw [nodeI_bad (by
          (try simp only [Bool.or_eq_true, decide_eq_true_eq, bne_iff_ne, ne_eq] at hb)
          dsimp only [List.length_nil, List.length_cons]
          rw [ha]
          omega)]
      | (simp only [Bool.or_eq_false_iff, decide_eq_false_iff_not, bne_eq_false_iff_eq] at hb
         rw [nodeI_ok (by dsimp only; omega) (by dsimp only [List.length_nil, List.length_cons]; rw [ha]; omega) (by dsimp only; omega) (by dsimp only; omega)]
         (try simp only [kindI, Int.reduceEq, or_false, false_or, or_true, true_or, or_self, if_true, if_false, ↓reduceIte, Int.reduceLE, decide_true, Bool.true_and])
         (try (refine congrArg (fun b : Bool => Tbool b) ?_; first | rfl | (congr 1; first | rfl | (congr 1; rw [Bool.eq_iff_iff]; simp only [List.length_cons, List.length_nil, decide_eq_true_eq, beq_iff_eq]; omega) | (simp [kidK]; done)) | (rw [Bool.eq_iff_iff]; simp only [Bool.and_eq_true, decide_eq_true_eq, beq_iff_eq]; omega) | (simp; done) | (rw [Bool.eq_iff_iff]; simp; omega))))
set_option maxRecDepth 100000 in
set_option maxHeartbeats 2000000 in
theorem c_nodeOk8C (p : MProgram) (at_ n : Int) (s : ByteArray) (q : Nat) (l : List Int) (hq : q < p.nodes.length) (pats : List MPat) (hpl : pats.length ≤ 1048576) (hsz : s.size ≤ maxLen) (f : FuncId) (caps : List D) (nb : Bool) (hf : FCon Try.prog f (.ag (MNode.mk 8 at_ n s ((q : Int) :: l) pats).enc :: caps.map .d) (· = Tbool nb)) :
    FCon Try.prog 83 [.ag p.enc, .ag (MNode.mk 8 at_ n s ((q : Int) :: l) pats).enc, .d (.fn f caps)] (· = Tbool (nodeI p.nodes ⟨8, at_, n, s, ((q : Int) :: l), pats⟩ nb)) := by
  have hn := getD_map MNode.enc p.nodes q hq
  have hne := MNode.enc_eq p.nodes[q]
  have hkk := fun kd => kidK_at (nodes := p.nodes) (l := (q : Int) :: l) (by simp) hq rfl kd
  have ha : arI 8 = 2 := by decide
  refine FCon.intro Try.func83 (by kernel_rfl) rfl Try.ntmps83 rfl (by simp) ?_
  repeat' (first | with_reducible refine ACallQ_no ?_ | (with_reducible first | refine AC_sq ?_ | refine AC_block ?_ | refine AC_skip ?_ | refine AC_exit ?_ | refine AC_ret ?_ | refine K_sn ?_ | refine K_se ?_ | refine K_sr ?_ | refine K_bn ?_ | refine K_br ?_ | refine K_be ?_ | refine K_tn ?_ | refine K_te ?_ | refine K_tr ?_) | with_reducible refine K_bo (by decide) ?_ | ((first | ((with_reducible refine AC_region ?_ ?_); kernel_rfl) | ((with_reducible refine AC_drawG mixed ?_ ?_ ?_ ?_); (decide +kernel); kernel_rfl; kernel_rfl) | (with_reducible first | refine AC_if ?_ | refine ACall_go ?_ | refine ACallQ_go ?_ | refine (?_ : aops _ _ _ _ _) | refine (?_ : aqs _ _ _ _ _))); simp only [go_sem, Nat.reduceAdd, Nat.reduceSub, Nat.reduceMul, Nat.reduceMod, Nat.reduceEqDiff, Nat.reduceBNe, Nat.reduceBEq, Nat.reduceLeDiff, Nat.reduceLT, ↓reduceIte, reduceCtorEq, Int.reduceBEq, Int.reduceBNe, Int.reduceLE, Int.reduceLT, Int.reduceEq, Int.reduceNeg, Int.reduceGE, Int.reduceGT, ha, hn, hne]; fail_if_success (with_reducible refine (?_ : False))) | with_reducible refine And.intro ?_ ?_ | (refine CallG_mk (c_arity 8) ?_; rintro _ rfl) | (refine CallQ_mk (c_arity 8) ?_ ?_) | (refine CallG_mk (hf) ?_; rintro _ rfl) | (refine CallQ_mk (hf) ?_ ?_) | with_reducible refine CallQ_no ?_ | with_reducible exact False.elim | ((with_reducible refine (?_ : _ → AC _ _ _ _ _)); (intro hb; (try simp only [decide_eq_true_eq, decide_eq_false_iff_not, Bool.not_eq_true', Bool.not_eq_false', gt_iff_lt, ge_iff_le, Int.not_lt, Int.not_le] at hb); (try (exfalso; omega)))) | omega | simp only [go_sem, Nat.reduceAdd, Nat.reduceSub, Nat.reduceMul, Nat.reduceMod, Nat.reduceEqDiff, Nat.reduceBNe, Nat.reduceBEq, Nat.reduceLeDiff, Nat.reduceLT, ↓reduceIte, reduceCtorEq, Int.reduceBEq, Int.reduceBNe, Int.reduceLE, Int.reduceLT, Int.reduceEq, Int.reduceNeg, Int.reduceGE, Int.reduceGT, ha, hn, hne] | (intro hg; simp only [Bool.and_eq_true, Bool.or_eq_true, Bool.not_eq_true', Bool.and_eq_false_iff, Bool.or_eq_false_iff, Bool.not_eq_false', decide_eq_true_eq, decide_eq_false_iff_not, Bool.not_not, gt_iff_lt, ge_iff_le, Int.not_lt, Int.not_le] at hg ⊢; first | omega | (simp_all; done) | exact ⟨hg, by omega, by omega⟩ | exact ⟨by simp_all, by omega, by omega⟩ | fail) | ((with_reducible refine (?_ : _ = true → _)); intro hg; first | exact ⟨hg, by omega⟩ | exact ⟨hg, hg, by omega, by omega⟩ | exact ⟨hg, by omega, by omega⟩ | fail))
  all_goals
    ((first | with_reducible refine K_ret [] ?_ ?_ | with_reducible refine K_end [] ?_ ?_); decide; simp only [go_sem, Nat.reduceAdd, Nat.reduceSub, Nat.reduceMul, Nat.reduceMod, Nat.reduceEqDiff, Nat.reduceBNe, Nat.reduceBEq, Nat.reduceLeDiff, Nat.reduceLT, ↓reduceIte, reduceCtorEq])
    (try clear hf)
    first
      | rw [nodeI_bad (by
          (try simp only [Bool.or_eq_true, decide_eq_true_eq, bne_iff_ne, ne_eq] at hb)
          dsimp only [List.length_nil, List.length_cons]
          rw [ha]
          omega)]
      | (simp only [Bool.or_eq_false_iff, decide_eq_false_iff_not, bne_eq_false_iff_eq] at hb
         rw [nodeI_ok (by dsimp only; omega) (by dsimp only [List.length_nil, List.length_cons]; rw [ha]; omega) (by dsimp only; omega) (by dsimp only; omega)]
         (try simp only [kindI, Int.reduceEq, or_false, false_or, or_true, true_or, or_self, if_true, if_false, ↓reduceIte, Int.reduceLE, decide_true, Bool.true_and, hkk])
         (try (refine congrArg (fun b : Bool => Tbool b) ?_; first | rfl | (congr 1; first | rfl | (congr 1; rw [Bool.eq_iff_iff]; simp only [List.length_cons, List.length_nil, decide_eq_true_eq, beq_iff_eq]; omega) | (simp [kidK]; done)) | (rw [Bool.eq_iff_iff]; simp only [Bool.and_eq_true, decide_eq_true_eq, beq_iff_eq]; omega) | (simp; done) | (rw [Bool.eq_iff_iff]; simp; omega))))
set_option maxRecDepth 100000 in
set_option maxHeartbeats 2000000 in
theorem c_nodeOk9 (p : MProgram) (at_ n : Int) (s : ByteArray) (kids : List Int) (pats : List MPat) (hpl : pats.length ≤ 1048576) (hsz : s.size ≤ maxLen) (f : FuncId) (caps : List D) (nb : Bool) (hf : FCon Try.prog f (.ag (MNode.mk 9 at_ n s kids pats).enc :: caps.map .d) (· = Tbool nb)) :
    FCon Try.prog 83 [.ag p.enc, .ag (MNode.mk 9 at_ n s kids pats).enc, .d (.fn f caps)] (· = Tbool (nodeI p.nodes ⟨9, at_, n, s, kids, pats⟩ nb)) := by
  have ha : arI 9 = 3 := by decide
  refine FCon.intro Try.func83 (by kernel_rfl) rfl Try.ntmps83 rfl (by simp) ?_
  repeat' (first | with_reducible refine ACallQ_no ?_ | (with_reducible first | refine AC_sq ?_ | refine AC_block ?_ | refine AC_skip ?_ | refine AC_exit ?_ | refine AC_ret ?_ | refine K_sn ?_ | refine K_se ?_ | refine K_sr ?_ | refine K_bn ?_ | refine K_br ?_ | refine K_be ?_ | refine K_tn ?_ | refine K_te ?_ | refine K_tr ?_) | with_reducible refine K_bo (by decide) ?_ | ((first | ((with_reducible refine AC_region ?_ ?_); kernel_rfl) | ((with_reducible refine AC_drawG mixed ?_ ?_ ?_ ?_); (decide +kernel); kernel_rfl; kernel_rfl) | (with_reducible first | refine AC_if ?_ | refine ACall_go ?_ | refine ACallQ_go ?_ | refine (?_ : aops _ _ _ _ _) | refine (?_ : aqs _ _ _ _ _))); simp only [go_sem, Nat.reduceAdd, Nat.reduceSub, Nat.reduceMul, Nat.reduceMod, Nat.reduceEqDiff, Nat.reduceBNe, Nat.reduceBEq, Nat.reduceLeDiff, Nat.reduceLT, ↓reduceIte, reduceCtorEq, Int.reduceBEq, Int.reduceBNe, Int.reduceLE, Int.reduceLT, Int.reduceEq, Int.reduceNeg, Int.reduceGE, Int.reduceGT, ha]; fail_if_success (with_reducible refine (?_ : False))) | with_reducible refine And.intro ?_ ?_ | (refine CallG_mk (c_arity 9) ?_; rintro _ rfl) | (refine CallQ_mk (c_arity 9) ?_ ?_) | with_reducible refine CallQ_no ?_ | with_reducible exact False.elim | ((with_reducible refine (?_ : _ → AC _ _ _ _ _)); (intro hb; (try simp only [decide_eq_true_eq, decide_eq_false_iff_not, Bool.not_eq_true', Bool.not_eq_false', gt_iff_lt, ge_iff_le, Int.not_lt, Int.not_le] at hb); (try (exfalso; omega)))) | omega | simp only [go_sem, Nat.reduceAdd, Nat.reduceSub, Nat.reduceMul, Nat.reduceMod, Nat.reduceEqDiff, Nat.reduceBNe, Nat.reduceBEq, Nat.reduceLeDiff, Nat.reduceLT, ↓reduceIte, reduceCtorEq, Int.reduceBEq, Int.reduceBNe, Int.reduceLE, Int.reduceLT, Int.reduceEq, Int.reduceNeg, Int.reduceGE, Int.reduceGT, ha] | (intro hg; simp only [Bool.and_eq_true, Bool.or_eq_true, Bool.not_eq_true', Bool.and_eq_false_iff, Bool.or_eq_false_iff, Bool.not_eq_false', decide_eq_true_eq, decide_eq_false_iff_not, Bool.not_not, gt_iff_lt, ge_iff_le, Int.not_lt, Int.not_le] at hg ⊢; first | omega | (simp_all; done) | exact ⟨hg, by omega, by omega⟩ | exact ⟨by simp_all, by omega, by omega⟩ | fail) | ((with_reducible refine (?_ : _ = true → _)); intro hg; first | exact ⟨hg, by omega⟩ | exact ⟨hg, hg, by omega, by omega⟩ | exact ⟨hg, by omega, by omega⟩ | fail))
  all_goals
    ((first | with_reducible refine K_ret [] ?_ ?_ | with_reducible refine K_end [] ?_ ?_); decide; simp only [go_sem, Nat.reduceAdd, Nat.reduceSub, Nat.reduceMul, Nat.reduceMod, Nat.reduceEqDiff, Nat.reduceBNe, Nat.reduceBEq, Nat.reduceLeDiff, Nat.reduceLT, ↓reduceIte, reduceCtorEq])
    (try clear hf)
    first
      | rw [nodeI_bad (by
          (try simp only [Bool.or_eq_true, decide_eq_true_eq, bne_iff_ne, ne_eq] at hb)
          dsimp only [List.length_nil, List.length_cons]
          rw [ha]
          omega)]
      | (simp only [Bool.or_eq_false_iff, decide_eq_false_iff_not, bne_eq_false_iff_eq] at hb
         rw [nodeI_ok (by dsimp only; omega) (by dsimp only [List.length_nil, List.length_cons]; rw [ha]; omega) (by dsimp only; omega) (by dsimp only; omega)]
         (try simp only [kindI, Int.reduceEq, or_false, false_or, or_true, true_or, or_self, if_true, if_false, ↓reduceIte, Int.reduceLE, decide_true, Bool.true_and])
         (try (refine congrArg (fun b : Bool => Tbool b) ?_; first | rfl | rfl | (rw [Bool.eq_iff_iff]; simp only [Bool.and_eq_true, decide_eq_true_eq, beq_iff_eq]; omega) | (simp; done) | (rw [Bool.eq_iff_iff]; simp; omega))))
set_option maxRecDepth 100000 in
set_option maxHeartbeats 2000000 in
theorem c_nodeOk10 (p : MProgram) (at_ n : Int) (s : ByteArray) (kids : List Int) (pats : List MPat) (hpl : pats.length ≤ 1048576) (hsz : s.size ≤ maxLen) (f : FuncId) (caps : List D) (nb : Bool) (hf : FCon Try.prog f (.ag (MNode.mk 10 at_ n s kids pats).enc :: caps.map .d) (· = Tbool nb)) :
    FCon Try.prog 83 [.ag p.enc, .ag (MNode.mk 10 at_ n s kids pats).enc, .d (.fn f caps)] (· = Tbool (nodeI p.nodes ⟨10, at_, n, s, kids, pats⟩ nb)) := by
  have ha : arI 10 = 2 := by decide
  refine FCon.intro Try.func83 (by kernel_rfl) rfl Try.ntmps83 rfl (by simp) ?_
  repeat' (first | with_reducible refine ACallQ_no ?_ | (with_reducible first | refine AC_sq ?_ | refine AC_block ?_ | refine AC_skip ?_ | refine AC_exit ?_ | refine AC_ret ?_ | refine K_sn ?_ | refine K_se ?_ | refine K_sr ?_ | refine K_bn ?_ | refine K_br ?_ | refine K_be ?_ | refine K_tn ?_ | refine K_te ?_ | refine K_tr ?_) | with_reducible refine K_bo (by decide) ?_ | ((first | ((with_reducible refine AC_region ?_ ?_); kernel_rfl) | ((with_reducible refine AC_drawG mixed ?_ ?_ ?_ ?_); (decide +kernel); kernel_rfl; kernel_rfl) | (with_reducible first | refine AC_if ?_ | refine ACall_go ?_ | refine ACallQ_go ?_ | refine (?_ : aops _ _ _ _ _) | refine (?_ : aqs _ _ _ _ _))); simp only [go_sem, Nat.reduceAdd, Nat.reduceSub, Nat.reduceMul, Nat.reduceMod, Nat.reduceEqDiff, Nat.reduceBNe, Nat.reduceBEq, Nat.reduceLeDiff, Nat.reduceLT, ↓reduceIte, reduceCtorEq, Int.reduceBEq, Int.reduceBNe, Int.reduceLE, Int.reduceLT, Int.reduceEq, Int.reduceNeg, Int.reduceGE, Int.reduceGT, ha]; fail_if_success (with_reducible refine (?_ : False))) | with_reducible refine And.intro ?_ ?_ | (refine CallG_mk (c_arity 10) ?_; rintro _ rfl) | (refine CallQ_mk (c_arity 10) ?_ ?_) | (refine CallG_mk (c_primOps) ?_; rintro _ rfl) | (refine CallQ_mk (c_primOps) ?_ ?_) | (refine CallG_mk (c_prims s) ?_; rintro _ rfl) | (refine CallQ_mk (c_prims s) ?_ ?_) | with_reducible refine CallQ_no ?_ | with_reducible exact False.elim | ((with_reducible refine (?_ : _ → AC _ _ _ _ _)); (intro hb; (try simp only [decide_eq_true_eq, decide_eq_false_iff_not, Bool.not_eq_true', Bool.not_eq_false', gt_iff_lt, ge_iff_le, Int.not_lt, Int.not_le] at hb); (try (exfalso; omega)))) | omega | simp only [go_sem, Nat.reduceAdd, Nat.reduceSub, Nat.reduceMul, Nat.reduceMod, Nat.reduceEqDiff, Nat.reduceBNe, Nat.reduceBEq, Nat.reduceLeDiff, Nat.reduceLT, ↓reduceIte, reduceCtorEq, Int.reduceBEq, Int.reduceBNe, Int.reduceLE, Int.reduceLT, Int.reduceEq, Int.reduceNeg, Int.reduceGE, Int.reduceGT, ha] | (intro hg; simp only [Bool.and_eq_true, Bool.or_eq_true, Bool.not_eq_true', Bool.and_eq_false_iff, Bool.or_eq_false_iff, Bool.not_eq_false', decide_eq_true_eq, decide_eq_false_iff_not, Bool.not_not, gt_iff_lt, ge_iff_le, Int.not_lt, Int.not_le] at hg ⊢; first | omega | (simp_all; done) | exact ⟨hg, by omega, by omega⟩ | exact ⟨by simp_all, by omega, by omega⟩ | fail) | ((with_reducible refine (?_ : _ = true → _)); intro hg; first | exact ⟨hg, by omega⟩ | exact ⟨hg, hg, by omega, by omega⟩ | exact ⟨hg, by omega, by omega⟩ | fail))
  all_goals
    ((first | with_reducible refine K_ret [] ?_ ?_ | with_reducible refine K_end [] ?_ ?_); decide; simp only [go_sem, Nat.reduceAdd, Nat.reduceSub, Nat.reduceMul, Nat.reduceMod, Nat.reduceEqDiff, Nat.reduceBNe, Nat.reduceBEq, Nat.reduceLeDiff, Nat.reduceLT, ↓reduceIte, reduceCtorEq])
    (try clear hf)
    first
      | rw [nodeI_bad (by
          (try simp only [Bool.or_eq_true, decide_eq_true_eq, bne_iff_ne, ne_eq] at hb)
          dsimp only [List.length_nil, List.length_cons]
          rw [ha]
          omega)]
      | (simp only [Bool.or_eq_false_iff, decide_eq_false_iff_not, bne_eq_false_iff_eq] at hb
         rw [nodeI_ok (by dsimp only; omega) (by dsimp only [List.length_nil, List.length_cons]; rw [ha]; omega) (by dsimp only; omega) (by dsimp only; omega)]
         (try simp only [kindI, Int.reduceEq, or_false, false_or, or_true, true_or, or_self, if_true, if_false, ↓reduceIte, Int.reduceLE, decide_true, Bool.true_and])
         (try (refine congrArg (fun b : Bool => Tbool b) ?_; first | rfl | rfl | (rw [Bool.eq_iff_iff]; simp only [Bool.and_eq_true, decide_eq_true_eq, beq_iff_eq]; omega) | (simp; done) | (rw [Bool.eq_iff_iff]; simp; omega))))
set_option maxRecDepth 100000 in
set_option maxHeartbeats 2000000 in
theorem c_nodeOk11 (p : MProgram) (at_ n : Int) (s : ByteArray) (kids : List Int) (pats : List MPat) (hpl : pats.length ≤ 1048576) (hsz : s.size ≤ maxLen) (f : FuncId) (caps : List D) (nb : Bool) (hf : FCon Try.prog f (.ag (MNode.mk 11 at_ n s kids pats).enc :: caps.map .d) (· = Tbool nb)) :
    FCon Try.prog 83 [.ag p.enc, .ag (MNode.mk 11 at_ n s kids pats).enc, .d (.fn f caps)] (· = Tbool (nodeI p.nodes ⟨11, at_, n, s, kids, pats⟩ nb)) := by
  have ha : arI 11 = 2 := by decide
  refine FCon.intro Try.func83 (by kernel_rfl) rfl Try.ntmps83 rfl (by simp) ?_
  repeat' (first | with_reducible refine ACallQ_no ?_ | (with_reducible first | refine AC_sq ?_ | refine AC_block ?_ | refine AC_skip ?_ | refine AC_exit ?_ | refine AC_ret ?_ | refine K_sn ?_ | refine K_se ?_ | refine K_sr ?_ | refine K_bn ?_ | refine K_br ?_ | refine K_be ?_ | refine K_tn ?_ | refine K_te ?_ | refine K_tr ?_) | with_reducible refine K_bo (by decide) ?_ | ((first | ((with_reducible refine AC_region ?_ ?_); kernel_rfl) | ((with_reducible refine AC_drawG mixed ?_ ?_ ?_ ?_); (decide +kernel); kernel_rfl; kernel_rfl) | (with_reducible first | refine AC_if ?_ | refine ACall_go ?_ | refine ACallQ_go ?_ | refine (?_ : aops _ _ _ _ _) | refine (?_ : aqs _ _ _ _ _))); simp only [go_sem, Nat.reduceAdd, Nat.reduceSub, Nat.reduceMul, Nat.reduceMod, Nat.reduceEqDiff, Nat.reduceBNe, Nat.reduceBEq, Nat.reduceLeDiff, Nat.reduceLT, ↓reduceIte, reduceCtorEq, Int.reduceBEq, Int.reduceBNe, Int.reduceLE, Int.reduceLT, Int.reduceEq, Int.reduceNeg, Int.reduceGE, Int.reduceGT, ha]; fail_if_success (with_reducible refine (?_ : False))) | with_reducible refine And.intro ?_ ?_ | (refine CallG_mk (c_arity 11) ?_; rintro _ rfl) | (refine CallQ_mk (c_arity 11) ?_ ?_) | with_reducible refine CallQ_no ?_ | with_reducible exact False.elim | ((with_reducible refine (?_ : _ → AC _ _ _ _ _)); (intro hb; (try simp only [decide_eq_true_eq, decide_eq_false_iff_not, Bool.not_eq_true', Bool.not_eq_false', gt_iff_lt, ge_iff_le, Int.not_lt, Int.not_le] at hb); (try (exfalso; omega)))) | omega | simp only [go_sem, Nat.reduceAdd, Nat.reduceSub, Nat.reduceMul, Nat.reduceMod, Nat.reduceEqDiff, Nat.reduceBNe, Nat.reduceBEq, Nat.reduceLeDiff, Nat.reduceLT, ↓reduceIte, reduceCtorEq, Int.reduceBEq, Int.reduceBNe, Int.reduceLE, Int.reduceLT, Int.reduceEq, Int.reduceNeg, Int.reduceGE, Int.reduceGT, ha] | (intro hg; simp only [Bool.and_eq_true, Bool.or_eq_true, Bool.not_eq_true', Bool.and_eq_false_iff, Bool.or_eq_false_iff, Bool.not_eq_false', decide_eq_true_eq, decide_eq_false_iff_not, Bool.not_not, gt_iff_lt, ge_iff_le, Int.not_lt, Int.not_le] at hg ⊢; first | omega | (simp_all; done) | exact ⟨hg, by omega, by omega⟩ | exact ⟨by simp_all, by omega, by omega⟩ | fail) | ((with_reducible refine (?_ : _ = true → _)); intro hg; first | exact ⟨hg, by omega⟩ | exact ⟨hg, hg, by omega, by omega⟩ | exact ⟨hg, by omega, by omega⟩ | fail))
  all_goals
    ((first | with_reducible refine K_ret [] ?_ ?_ | with_reducible refine K_end [] ?_ ?_); decide; simp only [go_sem, Nat.reduceAdd, Nat.reduceSub, Nat.reduceMul, Nat.reduceMod, Nat.reduceEqDiff, Nat.reduceBNe, Nat.reduceBEq, Nat.reduceLeDiff, Nat.reduceLT, ↓reduceIte, reduceCtorEq])
    (try clear hf)
    first
      | rw [nodeI_bad (by
          (try simp only [Bool.or_eq_true, decide_eq_true_eq, bne_iff_ne, ne_eq] at hb)
          dsimp only [List.length_nil, List.length_cons]
          rw [ha]
          omega)]
      | (simp only [Bool.or_eq_false_iff, decide_eq_false_iff_not, bne_eq_false_iff_eq] at hb
         rw [nodeI_ok (by dsimp only; omega) (by dsimp only [List.length_nil, List.length_cons]; rw [ha]; omega) (by dsimp only; omega) (by dsimp only; omega)]
         (try simp only [kindI, Int.reduceEq, or_false, false_or, or_true, true_or, or_self, if_true, if_false, ↓reduceIte, Int.reduceLE, decide_true, Bool.true_and])
         (try (refine congrArg (fun b : Bool => Tbool b) ?_; first | rfl | rfl | (rw [Bool.eq_iff_iff]; simp only [Bool.and_eq_true, decide_eq_true_eq, beq_iff_eq]; omega) | (simp; done) | (rw [Bool.eq_iff_iff]; simp; omega))))
set_option maxRecDepth 100000 in
set_option maxHeartbeats 2000000 in
theorem c_nodeOk12 (p : MProgram) (at_ n : Int) (s : ByteArray) (kids : List Int) (pats : List MPat) (hpl : pats.length ≤ 1048576) (hsz : s.size ≤ maxLen) (f : FuncId) (caps : List D) (nb : Bool) (hf : FCon Try.prog f (.ag (MNode.mk 12 at_ n s kids pats).enc :: caps.map .d) (· = Tbool nb)) :
    FCon Try.prog 83 [.ag p.enc, .ag (MNode.mk 12 at_ n s kids pats).enc, .d (.fn f caps)] (· = Tbool (nodeI p.nodes ⟨12, at_, n, s, kids, pats⟩ nb)) := by
  have ha : arI 12 = 0 := by decide
  refine FCon.intro Try.func83 (by kernel_rfl) rfl Try.ntmps83 rfl (by simp) ?_
  repeat' (first | with_reducible refine ACallQ_no ?_ | (with_reducible first | refine AC_sq ?_ | refine AC_block ?_ | refine AC_skip ?_ | refine AC_exit ?_ | refine AC_ret ?_ | refine K_sn ?_ | refine K_se ?_ | refine K_sr ?_ | refine K_bn ?_ | refine K_br ?_ | refine K_be ?_ | refine K_tn ?_ | refine K_te ?_ | refine K_tr ?_) | with_reducible refine K_bo (by decide) ?_ | ((first | ((with_reducible refine AC_region ?_ ?_); kernel_rfl) | ((with_reducible refine AC_drawG mixed ?_ ?_ ?_ ?_); (decide +kernel); kernel_rfl; kernel_rfl) | (with_reducible first | refine AC_if ?_ | refine ACall_go ?_ | refine ACallQ_go ?_ | refine (?_ : aops _ _ _ _ _) | refine (?_ : aqs _ _ _ _ _))); simp only [go_sem, Nat.reduceAdd, Nat.reduceSub, Nat.reduceMul, Nat.reduceMod, Nat.reduceEqDiff, Nat.reduceBNe, Nat.reduceBEq, Nat.reduceLeDiff, Nat.reduceLT, ↓reduceIte, reduceCtorEq, Int.reduceBEq, Int.reduceBNe, Int.reduceLE, Int.reduceLT, Int.reduceEq, Int.reduceNeg, Int.reduceGE, Int.reduceGT, ha]; fail_if_success (with_reducible refine (?_ : False))) | with_reducible refine And.intro ?_ ?_ | (refine CallG_mk (c_arity 12) ?_; rintro _ rfl) | (refine CallQ_mk (c_arity 12) ?_ ?_) | with_reducible refine CallQ_no ?_ | with_reducible exact False.elim | ((with_reducible refine (?_ : _ → AC _ _ _ _ _)); (intro hb; (try simp only [decide_eq_true_eq, decide_eq_false_iff_not, Bool.not_eq_true', Bool.not_eq_false', gt_iff_lt, ge_iff_le, Int.not_lt, Int.not_le] at hb); (try (exfalso; omega)))) | omega | simp only [go_sem, Nat.reduceAdd, Nat.reduceSub, Nat.reduceMul, Nat.reduceMod, Nat.reduceEqDiff, Nat.reduceBNe, Nat.reduceBEq, Nat.reduceLeDiff, Nat.reduceLT, ↓reduceIte, reduceCtorEq, Int.reduceBEq, Int.reduceBNe, Int.reduceLE, Int.reduceLT, Int.reduceEq, Int.reduceNeg, Int.reduceGE, Int.reduceGT, ha] | (intro hg; simp only [Bool.and_eq_true, Bool.or_eq_true, Bool.not_eq_true', Bool.and_eq_false_iff, Bool.or_eq_false_iff, Bool.not_eq_false', decide_eq_true_eq, decide_eq_false_iff_not, Bool.not_not, gt_iff_lt, ge_iff_le, Int.not_lt, Int.not_le] at hg ⊢; first | omega | (simp_all; done) | exact ⟨hg, by omega, by omega⟩ | exact ⟨by simp_all, by omega, by omega⟩ | fail) | ((with_reducible refine (?_ : _ = true → _)); intro hg; first | exact ⟨hg, by omega⟩ | exact ⟨hg, hg, by omega, by omega⟩ | exact ⟨hg, by omega, by omega⟩ | fail))
  all_goals
    ((first | with_reducible refine K_ret [] ?_ ?_ | with_reducible refine K_end [] ?_ ?_); decide; simp only [go_sem, Nat.reduceAdd, Nat.reduceSub, Nat.reduceMul, Nat.reduceMod, Nat.reduceEqDiff, Nat.reduceBNe, Nat.reduceBEq, Nat.reduceLeDiff, Nat.reduceLT, ↓reduceIte, reduceCtorEq])
    (try clear hf)
    first
      | rw [nodeI_bad (by
          (try simp only [Bool.or_eq_true, decide_eq_true_eq, bne_iff_ne, ne_eq] at hb)
          dsimp only [List.length_nil, List.length_cons]
          rw [ha]
          omega)]
      | (simp only [Bool.or_eq_false_iff, decide_eq_false_iff_not, bne_eq_false_iff_eq] at hb
         rw [nodeI_ok (by dsimp only; omega) (by dsimp only [List.length_nil, List.length_cons]; rw [ha]; omega) (by dsimp only; omega) (by dsimp only; omega)]
         (try simp only [kindI, Int.reduceEq, or_false, false_or, or_true, true_or, or_self, if_true, if_false, ↓reduceIte, Int.reduceLE, decide_true, Bool.true_and])
         (try (refine congrArg (fun b : Bool => Tbool b) ?_; first | rfl | rfl | (rw [Bool.eq_iff_iff]; simp only [Bool.and_eq_true, decide_eq_true_eq, beq_iff_eq]; omega) | (simp; done) | (rw [Bool.eq_iff_iff]; simp; omega))))
set_option maxRecDepth 100000 in
set_option maxHeartbeats 2000000 in
theorem c_nodeOk13 (p : MProgram) (at_ n : Int) (s : ByteArray) (kids : List Int) (pats : List MPat) (hpl : pats.length ≤ 1048576) (hsz : s.size ≤ maxLen) (f : FuncId) (caps : List D) (nb : Bool) (hf : FCon Try.prog f (.ag (MNode.mk 13 at_ n s kids pats).enc :: caps.map .d) (· = Tbool nb)) :
    FCon Try.prog 83 [.ag p.enc, .ag (MNode.mk 13 at_ n s kids pats).enc, .d (.fn f caps)] (· = Tbool (nodeI p.nodes ⟨13, at_, n, s, kids, pats⟩ nb)) := by
  have ha : arI 13 = -1 := by decide
  refine FCon.intro Try.func83 (by kernel_rfl) rfl Try.ntmps83 rfl (by simp) ?_
  repeat' (first | with_reducible refine ACallQ_no ?_ | (with_reducible first | refine AC_sq ?_ | refine AC_block ?_ | refine AC_skip ?_ | refine AC_exit ?_ | refine AC_ret ?_ | refine K_sn ?_ | refine K_se ?_ | refine K_sr ?_ | refine K_bn ?_ | refine K_br ?_ | refine K_be ?_ | refine K_tn ?_ | refine K_te ?_ | refine K_tr ?_) | with_reducible refine K_bo (by decide) ?_ | ((first | ((with_reducible refine AC_region ?_ ?_); kernel_rfl) | ((with_reducible refine AC_drawG mixed ?_ ?_ ?_ ?_); (decide +kernel); kernel_rfl; kernel_rfl) | (with_reducible first | refine AC_if ?_ | refine ACall_go ?_ | refine ACallQ_go ?_ | refine (?_ : aops _ _ _ _ _) | refine (?_ : aqs _ _ _ _ _))); simp only [go_sem, Nat.reduceAdd, Nat.reduceSub, Nat.reduceMul, Nat.reduceMod, Nat.reduceEqDiff, Nat.reduceBNe, Nat.reduceBEq, Nat.reduceLeDiff, Nat.reduceLT, ↓reduceIte, reduceCtorEq, Int.reduceBEq, Int.reduceBNe, Int.reduceLE, Int.reduceLT, Int.reduceEq, Int.reduceNeg, Int.reduceGE, Int.reduceGT, ha]; fail_if_success (with_reducible refine (?_ : False))) | with_reducible refine And.intro ?_ ?_ | (refine CallG_mk (c_arity 13) ?_; rintro _ rfl) | (refine CallQ_mk (c_arity 13) ?_ ?_) | with_reducible refine CallQ_no ?_ | with_reducible exact False.elim | ((with_reducible refine (?_ : _ → AC _ _ _ _ _)); (intro hb; (try simp only [decide_eq_true_eq, decide_eq_false_iff_not, Bool.not_eq_true', Bool.not_eq_false', gt_iff_lt, ge_iff_le, Int.not_lt, Int.not_le] at hb); (try (exfalso; omega)))) | omega | simp only [go_sem, Nat.reduceAdd, Nat.reduceSub, Nat.reduceMul, Nat.reduceMod, Nat.reduceEqDiff, Nat.reduceBNe, Nat.reduceBEq, Nat.reduceLeDiff, Nat.reduceLT, ↓reduceIte, reduceCtorEq, Int.reduceBEq, Int.reduceBNe, Int.reduceLE, Int.reduceLT, Int.reduceEq, Int.reduceNeg, Int.reduceGE, Int.reduceGT, ha] | (intro hg; simp only [Bool.and_eq_true, Bool.or_eq_true, Bool.not_eq_true', Bool.and_eq_false_iff, Bool.or_eq_false_iff, Bool.not_eq_false', decide_eq_true_eq, decide_eq_false_iff_not, Bool.not_not, gt_iff_lt, ge_iff_le, Int.not_lt, Int.not_le] at hg ⊢; first | omega | (simp_all; done) | exact ⟨hg, by omega, by omega⟩ | exact ⟨by simp_all, by omega, by omega⟩ | fail) | ((with_reducible refine (?_ : _ = true → _)); intro hg; first | exact ⟨hg, by omega⟩ | exact ⟨hg, hg, by omega, by omega⟩ | exact ⟨hg, by omega, by omega⟩ | fail))
  all_goals
    ((first | with_reducible refine K_ret [] ?_ ?_ | with_reducible refine K_end [] ?_ ?_); decide; simp only [go_sem, Nat.reduceAdd, Nat.reduceSub, Nat.reduceMul, Nat.reduceMod, Nat.reduceEqDiff, Nat.reduceBNe, Nat.reduceBEq, Nat.reduceLeDiff, Nat.reduceLT, ↓reduceIte, reduceCtorEq])
    (try clear hf)
    first
      | rw [nodeI_bad (by
          (try simp only [Bool.or_eq_true, decide_eq_true_eq, bne_iff_ne, ne_eq] at hb)
          dsimp only [List.length_nil, List.length_cons]
          rw [ha]
          omega)]
      | (simp only [Bool.or_eq_false_iff, decide_eq_false_iff_not, bne_eq_false_iff_eq] at hb
         rw [nodeI_ok (by dsimp only; omega) (by dsimp only [List.length_nil, List.length_cons]; rw [ha]; omega) (by dsimp only; omega) (by dsimp only; omega)]
         (try simp only [kindI, Int.reduceEq, or_false, false_or, or_true, true_or, or_self, if_true, if_false, ↓reduceIte, Int.reduceLE, decide_true, Bool.true_and])
         (try (refine congrArg (fun b : Bool => Tbool b) ?_; first | rfl | (rw [show decide ((pats.length : Int) ≥ 1) = decide (1 ≤ pats.length) from (by rw [decide_eq_decide]; omega), show ((kids.length : Int) == (pats.length : Int) + 1) = decide (kids.length = pats.length + 1) from (by rw [Bool.eq_iff_iff]; simp only [beq_iff_eq, decide_eq_true_eq]; omega)]) | (rw [Bool.eq_iff_iff]; simp only [Bool.and_eq_true, decide_eq_true_eq, beq_iff_eq]; omega) | (simp; done) | (rw [Bool.eq_iff_iff]; simp; omega))))
set_option maxRecDepth 100000 in
set_option maxHeartbeats 2000000 in
theorem c_nodeOk14 (p : MProgram) (at_ n : Int) (s : ByteArray) (kids : List Int) (pats : List MPat) (hpl : pats.length ≤ 1048576) (hsz : s.size ≤ maxLen) (f : FuncId) (caps : List D) (nb : Bool) (hf : FCon Try.prog f (.ag (MNode.mk 14 at_ n s kids pats).enc :: caps.map .d) (· = Tbool nb)) :
    FCon Try.prog 83 [.ag p.enc, .ag (MNode.mk 14 at_ n s kids pats).enc, .d (.fn f caps)] (· = Tbool (nodeI p.nodes ⟨14, at_, n, s, kids, pats⟩ nb)) := by
  have ha : arI 14 = 1 := by decide
  refine FCon.intro Try.func83 (by kernel_rfl) rfl Try.ntmps83 rfl (by simp) ?_
  repeat' (first | with_reducible refine ACallQ_no ?_ | (with_reducible first | refine AC_sq ?_ | refine AC_block ?_ | refine AC_skip ?_ | refine AC_exit ?_ | refine AC_ret ?_ | refine K_sn ?_ | refine K_se ?_ | refine K_sr ?_ | refine K_bn ?_ | refine K_br ?_ | refine K_be ?_ | refine K_tn ?_ | refine K_te ?_ | refine K_tr ?_) | with_reducible refine K_bo (by decide) ?_ | ((first | ((with_reducible refine AC_region ?_ ?_); kernel_rfl) | ((with_reducible refine AC_drawG mixed ?_ ?_ ?_ ?_); (decide +kernel); kernel_rfl; kernel_rfl) | (with_reducible first | refine AC_if ?_ | refine ACall_go ?_ | refine ACallQ_go ?_ | refine (?_ : aops _ _ _ _ _) | refine (?_ : aqs _ _ _ _ _))); simp only [go_sem, Nat.reduceAdd, Nat.reduceSub, Nat.reduceMul, Nat.reduceMod, Nat.reduceEqDiff, Nat.reduceBNe, Nat.reduceBEq, Nat.reduceLeDiff, Nat.reduceLT, ↓reduceIte, reduceCtorEq, Int.reduceBEq, Int.reduceBNe, Int.reduceLE, Int.reduceLT, Int.reduceEq, Int.reduceNeg, Int.reduceGE, Int.reduceGT, ha]; fail_if_success (with_reducible refine (?_ : False))) | with_reducible refine And.intro ?_ ?_ | (refine CallG_mk (c_arity 14) ?_; rintro _ rfl) | (refine CallQ_mk (c_arity 14) ?_ ?_) | with_reducible refine CallQ_no ?_ | with_reducible exact False.elim | ((with_reducible refine (?_ : _ → AC _ _ _ _ _)); (intro hb; (try simp only [decide_eq_true_eq, decide_eq_false_iff_not, Bool.not_eq_true', Bool.not_eq_false', gt_iff_lt, ge_iff_le, Int.not_lt, Int.not_le] at hb); (try (exfalso; omega)))) | omega | simp only [go_sem, Nat.reduceAdd, Nat.reduceSub, Nat.reduceMul, Nat.reduceMod, Nat.reduceEqDiff, Nat.reduceBNe, Nat.reduceBEq, Nat.reduceLeDiff, Nat.reduceLT, ↓reduceIte, reduceCtorEq, Int.reduceBEq, Int.reduceBNe, Int.reduceLE, Int.reduceLT, Int.reduceEq, Int.reduceNeg, Int.reduceGE, Int.reduceGT, ha] | (intro hg; simp only [Bool.and_eq_true, Bool.or_eq_true, Bool.not_eq_true', Bool.and_eq_false_iff, Bool.or_eq_false_iff, Bool.not_eq_false', decide_eq_true_eq, decide_eq_false_iff_not, Bool.not_not, gt_iff_lt, ge_iff_le, Int.not_lt, Int.not_le] at hg ⊢; first | omega | (simp_all; done) | exact ⟨hg, by omega, by omega⟩ | exact ⟨by simp_all, by omega, by omega⟩ | fail) | ((with_reducible refine (?_ : _ = true → _)); intro hg; first | exact ⟨hg, by omega⟩ | exact ⟨hg, hg, by omega, by omega⟩ | exact ⟨hg, by omega, by omega⟩ | fail))
  all_goals
    ((first | with_reducible refine K_ret [] ?_ ?_ | with_reducible refine K_end [] ?_ ?_); decide; simp only [go_sem, Nat.reduceAdd, Nat.reduceSub, Nat.reduceMul, Nat.reduceMod, Nat.reduceEqDiff, Nat.reduceBNe, Nat.reduceBEq, Nat.reduceLeDiff, Nat.reduceLT, ↓reduceIte, reduceCtorEq])
    (try clear hf)
    first
      | rw [nodeI_bad (by
          (try simp only [Bool.or_eq_true, decide_eq_true_eq, bne_iff_ne, ne_eq] at hb)
          dsimp only [List.length_nil, List.length_cons]
          rw [ha]
          omega)]
      | (simp only [Bool.or_eq_false_iff, decide_eq_false_iff_not, bne_eq_false_iff_eq] at hb
         rw [nodeI_ok (by dsimp only; omega) (by dsimp only [List.length_nil, List.length_cons]; rw [ha]; omega) (by dsimp only; omega) (by dsimp only; omega)]
         (try simp only [kindI, Int.reduceEq, or_false, false_or, or_true, true_or, or_self, if_true, if_false, ↓reduceIte, Int.reduceLE, decide_true, Bool.true_and])
         (try (refine congrArg (fun b : Bool => Tbool b) ?_; first | rfl | rfl | (rw [Bool.eq_iff_iff]; simp only [Bool.and_eq_true, decide_eq_true_eq, beq_iff_eq]; omega) | (simp; done) | (rw [Bool.eq_iff_iff]; simp; omega))))
set_option maxRecDepth 100000 in
set_option maxHeartbeats 2000000 in
theorem c_nodeOk15 (p : MProgram) (at_ n : Int) (s : ByteArray) (kids : List Int) (pats : List MPat) (hpl : pats.length ≤ 1048576) (hsz : s.size ≤ maxLen) (f : FuncId) (caps : List D) (nb : Bool) (hf : FCon Try.prog f (.ag (MNode.mk 15 at_ n s kids pats).enc :: caps.map .d) (· = Tbool nb)) :
    FCon Try.prog 83 [.ag p.enc, .ag (MNode.mk 15 at_ n s kids pats).enc, .d (.fn f caps)] (· = Tbool (nodeI p.nodes ⟨15, at_, n, s, kids, pats⟩ nb)) := by
  have ha : arI 15 = 2 := by decide
  refine FCon.intro Try.func83 (by kernel_rfl) rfl Try.ntmps83 rfl (by simp) ?_
  repeat' (first | with_reducible refine ACallQ_no ?_ | (with_reducible first | refine AC_sq ?_ | refine AC_block ?_ | refine AC_skip ?_ | refine AC_exit ?_ | refine AC_ret ?_ | refine K_sn ?_ | refine K_se ?_ | refine K_sr ?_ | refine K_bn ?_ | refine K_br ?_ | refine K_be ?_ | refine K_tn ?_ | refine K_te ?_ | refine K_tr ?_) | with_reducible refine K_bo (by decide) ?_ | ((first | ((with_reducible refine AC_region ?_ ?_); kernel_rfl) | ((with_reducible refine AC_drawG mixed ?_ ?_ ?_ ?_); (decide +kernel); kernel_rfl; kernel_rfl) | (with_reducible first | refine AC_if ?_ | refine ACall_go ?_ | refine ACallQ_go ?_ | refine (?_ : aops _ _ _ _ _) | refine (?_ : aqs _ _ _ _ _))); simp only [go_sem, Nat.reduceAdd, Nat.reduceSub, Nat.reduceMul, Nat.reduceMod, Nat.reduceEqDiff, Nat.reduceBNe, Nat.reduceBEq, Nat.reduceLeDiff, Nat.reduceLT, ↓reduceIte, reduceCtorEq, Int.reduceBEq, Int.reduceBNe, Int.reduceLE, Int.reduceLT, Int.reduceEq, Int.reduceNeg, Int.reduceGE, Int.reduceGT, ha]; fail_if_success (with_reducible refine (?_ : False))) | with_reducible refine And.intro ?_ ?_ | (refine CallG_mk (c_arity 15) ?_; rintro _ rfl) | (refine CallQ_mk (c_arity 15) ?_ ?_) | (refine CallG_mk (hf) ?_; rintro _ rfl) | (refine CallQ_mk (hf) ?_ ?_) | with_reducible refine CallQ_no ?_ | with_reducible exact False.elim | ((with_reducible refine (?_ : _ → AC _ _ _ _ _)); (intro hb; (try simp only [decide_eq_true_eq, decide_eq_false_iff_not, Bool.not_eq_true', Bool.not_eq_false', gt_iff_lt, ge_iff_le, Int.not_lt, Int.not_le] at hb); (try (exfalso; omega)))) | omega | simp only [go_sem, Nat.reduceAdd, Nat.reduceSub, Nat.reduceMul, Nat.reduceMod, Nat.reduceEqDiff, Nat.reduceBNe, Nat.reduceBEq, Nat.reduceLeDiff, Nat.reduceLT, ↓reduceIte, reduceCtorEq, Int.reduceBEq, Int.reduceBNe, Int.reduceLE, Int.reduceLT, Int.reduceEq, Int.reduceNeg, Int.reduceGE, Int.reduceGT, ha] | (intro hg; simp only [Bool.and_eq_true, Bool.or_eq_true, Bool.not_eq_true', Bool.and_eq_false_iff, Bool.or_eq_false_iff, Bool.not_eq_false', decide_eq_true_eq, decide_eq_false_iff_not, Bool.not_not, gt_iff_lt, ge_iff_le, Int.not_lt, Int.not_le] at hg ⊢; first | omega | (simp_all; done) | exact ⟨hg, by omega, by omega⟩ | exact ⟨by simp_all, by omega, by omega⟩ | fail) | ((with_reducible refine (?_ : _ = true → _)); intro hg; first | exact ⟨hg, by omega⟩ | exact ⟨hg, hg, by omega, by omega⟩ | exact ⟨hg, by omega, by omega⟩ | fail))
  all_goals
    ((first | with_reducible refine K_ret [] ?_ ?_ | with_reducible refine K_end [] ?_ ?_); decide; simp only [go_sem, Nat.reduceAdd, Nat.reduceSub, Nat.reduceMul, Nat.reduceMod, Nat.reduceEqDiff, Nat.reduceBNe, Nat.reduceBEq, Nat.reduceLeDiff, Nat.reduceLT, ↓reduceIte, reduceCtorEq])
    (try clear hf)
    first
      | rw [nodeI_bad (by
          (try simp only [Bool.or_eq_true, decide_eq_true_eq, bne_iff_ne, ne_eq] at hb)
          dsimp only [List.length_nil, List.length_cons]
          rw [ha]
          omega)]
      | (simp only [Bool.or_eq_false_iff, decide_eq_false_iff_not, bne_eq_false_iff_eq] at hb
         rw [nodeI_ok (by dsimp only; omega) (by dsimp only [List.length_nil, List.length_cons]; rw [ha]; omega) (by dsimp only; omega) (by dsimp only; omega)]
         (try simp only [kindI, Int.reduceEq, or_false, false_or, or_true, true_or, or_self, if_true, if_false, ↓reduceIte, Int.reduceLE, decide_true, Bool.true_and])
         (try (refine congrArg (fun b : Bool => Tbool b) ?_; first | rfl | rfl | (rw [Bool.eq_iff_iff]; simp only [Bool.and_eq_true, decide_eq_true_eq, beq_iff_eq]; omega) | (simp; done) | (rw [Bool.eq_iff_iff]; simp; omega))))
set_option maxRecDepth 100000 in
set_option maxHeartbeats 2000000 in
theorem c_nodeOk16 (p : MProgram) (at_ n : Int) (s : ByteArray) (kids : List Int) (pats : List MPat) (hpl : pats.length ≤ 1048576) (hsz : s.size ≤ maxLen) (f : FuncId) (caps : List D) (nb : Bool) (hf : FCon Try.prog f (.ag (MNode.mk 16 at_ n s kids pats).enc :: caps.map .d) (· = Tbool nb)) :
    FCon Try.prog 83 [.ag p.enc, .ag (MNode.mk 16 at_ n s kids pats).enc, .d (.fn f caps)] (· = Tbool (nodeI p.nodes ⟨16, at_, n, s, kids, pats⟩ nb)) := by
  have ha : arI 16 = 1 := by decide
  refine FCon.intro Try.func83 (by kernel_rfl) rfl Try.ntmps83 rfl (by simp) ?_
  repeat' (first | with_reducible refine ACallQ_no ?_ | (with_reducible first | refine AC_sq ?_ | refine AC_block ?_ | refine AC_skip ?_ | refine AC_exit ?_ | refine AC_ret ?_ | refine K_sn ?_ | refine K_se ?_ | refine K_sr ?_ | refine K_bn ?_ | refine K_br ?_ | refine K_be ?_ | refine K_tn ?_ | refine K_te ?_ | refine K_tr ?_) | with_reducible refine K_bo (by decide) ?_ | ((first | ((with_reducible refine AC_region ?_ ?_); kernel_rfl) | ((with_reducible refine AC_drawG mixed ?_ ?_ ?_ ?_); (decide +kernel); kernel_rfl; kernel_rfl) | (with_reducible first | refine AC_if ?_ | refine ACall_go ?_ | refine ACallQ_go ?_ | refine (?_ : aops _ _ _ _ _) | refine (?_ : aqs _ _ _ _ _))); simp only [go_sem, Nat.reduceAdd, Nat.reduceSub, Nat.reduceMul, Nat.reduceMod, Nat.reduceEqDiff, Nat.reduceBNe, Nat.reduceBEq, Nat.reduceLeDiff, Nat.reduceLT, ↓reduceIte, reduceCtorEq, Int.reduceBEq, Int.reduceBNe, Int.reduceLE, Int.reduceLT, Int.reduceEq, Int.reduceNeg, Int.reduceGE, Int.reduceGT, ha]; fail_if_success (with_reducible refine (?_ : False))) | with_reducible refine And.intro ?_ ?_ | (refine CallG_mk (c_arity 16) ?_; rintro _ rfl) | (refine CallQ_mk (c_arity 16) ?_ ?_) | with_reducible refine CallQ_no ?_ | with_reducible exact False.elim | ((with_reducible refine (?_ : _ → AC _ _ _ _ _)); (intro hb; (try simp only [decide_eq_true_eq, decide_eq_false_iff_not, Bool.not_eq_true', Bool.not_eq_false', gt_iff_lt, ge_iff_le, Int.not_lt, Int.not_le] at hb); (try (exfalso; omega)))) | omega | simp only [go_sem, Nat.reduceAdd, Nat.reduceSub, Nat.reduceMul, Nat.reduceMod, Nat.reduceEqDiff, Nat.reduceBNe, Nat.reduceBEq, Nat.reduceLeDiff, Nat.reduceLT, ↓reduceIte, reduceCtorEq, Int.reduceBEq, Int.reduceBNe, Int.reduceLE, Int.reduceLT, Int.reduceEq, Int.reduceNeg, Int.reduceGE, Int.reduceGT, ha] | (intro hg; simp only [Bool.and_eq_true, Bool.or_eq_true, Bool.not_eq_true', Bool.and_eq_false_iff, Bool.or_eq_false_iff, Bool.not_eq_false', decide_eq_true_eq, decide_eq_false_iff_not, Bool.not_not, gt_iff_lt, ge_iff_le, Int.not_lt, Int.not_le] at hg ⊢; first | omega | (simp_all; done) | exact ⟨hg, by omega, by omega⟩ | exact ⟨by simp_all, by omega, by omega⟩ | fail) | ((with_reducible refine (?_ : _ = true → _)); intro hg; first | exact ⟨hg, by omega⟩ | exact ⟨hg, hg, by omega, by omega⟩ | exact ⟨hg, by omega, by omega⟩ | fail))
  all_goals
    ((first | with_reducible refine K_ret [] ?_ ?_ | with_reducible refine K_end [] ?_ ?_); decide; simp only [go_sem, Nat.reduceAdd, Nat.reduceSub, Nat.reduceMul, Nat.reduceMod, Nat.reduceEqDiff, Nat.reduceBNe, Nat.reduceBEq, Nat.reduceLeDiff, Nat.reduceLT, ↓reduceIte, reduceCtorEq])
    (try clear hf)
    first
      | rw [nodeI_bad (by
          (try simp only [Bool.or_eq_true, decide_eq_true_eq, bne_iff_ne, ne_eq] at hb)
          dsimp only [List.length_nil, List.length_cons]
          rw [ha]
          omega)]
      | (simp only [Bool.or_eq_false_iff, decide_eq_false_iff_not, bne_eq_false_iff_eq] at hb
         rw [nodeI_ok (by dsimp only; omega) (by dsimp only [List.length_nil, List.length_cons]; rw [ha]; omega) (by dsimp only; omega) (by dsimp only; omega)]
         (try simp only [kindI, Int.reduceEq, or_false, false_or, or_true, true_or, or_self, if_true, if_false, ↓reduceIte, Int.reduceLE, decide_true, Bool.true_and])
         (try (refine congrArg (fun b : Bool => Tbool b) ?_; first | rfl | rfl | (rw [Bool.eq_iff_iff]; simp only [Bool.and_eq_true, decide_eq_true_eq, beq_iff_eq]; omega) | (simp; done) | (rw [Bool.eq_iff_iff]; simp; omega))))
set_option maxRecDepth 100000 in
set_option maxHeartbeats 2000000 in
theorem c_nodeOk17 (p : MProgram) (at_ n : Int) (s : ByteArray) (kids : List Int) (pats : List MPat) (hpl : pats.length ≤ 1048576) (hsz : s.size ≤ maxLen) (f : FuncId) (caps : List D) (nb : Bool) (hf : FCon Try.prog f (.ag (MNode.mk 17 at_ n s kids pats).enc :: caps.map .d) (· = Tbool nb)) :
    FCon Try.prog 83 [.ag p.enc, .ag (MNode.mk 17 at_ n s kids pats).enc, .d (.fn f caps)] (· = Tbool (nodeI p.nodes ⟨17, at_, n, s, kids, pats⟩ nb)) := by
  have ha : arI 17 = 1 := by decide
  refine FCon.intro Try.func83 (by kernel_rfl) rfl Try.ntmps83 rfl (by simp) ?_
  repeat' (first | with_reducible refine ACallQ_no ?_ | (with_reducible first | refine AC_sq ?_ | refine AC_block ?_ | refine AC_skip ?_ | refine AC_exit ?_ | refine AC_ret ?_ | refine K_sn ?_ | refine K_se ?_ | refine K_sr ?_ | refine K_bn ?_ | refine K_br ?_ | refine K_be ?_ | refine K_tn ?_ | refine K_te ?_ | refine K_tr ?_) | with_reducible refine K_bo (by decide) ?_ | ((first | ((with_reducible refine AC_region ?_ ?_); kernel_rfl) | ((with_reducible refine AC_drawG mixed ?_ ?_ ?_ ?_); (decide +kernel); kernel_rfl; kernel_rfl) | (with_reducible first | refine AC_if ?_ | refine ACall_go ?_ | refine ACallQ_go ?_ | refine (?_ : aops _ _ _ _ _) | refine (?_ : aqs _ _ _ _ _))); simp only [go_sem, Nat.reduceAdd, Nat.reduceSub, Nat.reduceMul, Nat.reduceMod, Nat.reduceEqDiff, Nat.reduceBNe, Nat.reduceBEq, Nat.reduceLeDiff, Nat.reduceLT, ↓reduceIte, reduceCtorEq, Int.reduceBEq, Int.reduceBNe, Int.reduceLE, Int.reduceLT, Int.reduceEq, Int.reduceNeg, Int.reduceGE, Int.reduceGT, ha]; fail_if_success (with_reducible refine (?_ : False))) | with_reducible refine And.intro ?_ ?_ | (refine CallG_mk (c_arity 17) ?_; rintro _ rfl) | (refine CallQ_mk (c_arity 17) ?_ ?_) | with_reducible refine CallQ_no ?_ | with_reducible exact False.elim | ((with_reducible refine (?_ : _ → AC _ _ _ _ _)); (intro hb; (try simp only [decide_eq_true_eq, decide_eq_false_iff_not, Bool.not_eq_true', Bool.not_eq_false', gt_iff_lt, ge_iff_le, Int.not_lt, Int.not_le] at hb); (try (exfalso; omega)))) | omega | simp only [go_sem, Nat.reduceAdd, Nat.reduceSub, Nat.reduceMul, Nat.reduceMod, Nat.reduceEqDiff, Nat.reduceBNe, Nat.reduceBEq, Nat.reduceLeDiff, Nat.reduceLT, ↓reduceIte, reduceCtorEq, Int.reduceBEq, Int.reduceBNe, Int.reduceLE, Int.reduceLT, Int.reduceEq, Int.reduceNeg, Int.reduceGE, Int.reduceGT, ha] | (intro hg; simp only [Bool.and_eq_true, Bool.or_eq_true, Bool.not_eq_true', Bool.and_eq_false_iff, Bool.or_eq_false_iff, Bool.not_eq_false', decide_eq_true_eq, decide_eq_false_iff_not, Bool.not_not, gt_iff_lt, ge_iff_le, Int.not_lt, Int.not_le] at hg ⊢; first | omega | (simp_all; done) | exact ⟨hg, by omega, by omega⟩ | exact ⟨by simp_all, by omega, by omega⟩ | fail) | ((with_reducible refine (?_ : _ = true → _)); intro hg; first | exact ⟨hg, by omega⟩ | exact ⟨hg, hg, by omega, by omega⟩ | exact ⟨hg, by omega, by omega⟩ | fail))
  all_goals
    ((first | with_reducible refine K_ret [] ?_ ?_ | with_reducible refine K_end [] ?_ ?_); decide; simp only [go_sem, Nat.reduceAdd, Nat.reduceSub, Nat.reduceMul, Nat.reduceMod, Nat.reduceEqDiff, Nat.reduceBNe, Nat.reduceBEq, Nat.reduceLeDiff, Nat.reduceLT, ↓reduceIte, reduceCtorEq])
    (try clear hf)
    first
      | rw [nodeI_bad (by
          (try simp only [Bool.or_eq_true, decide_eq_true_eq, bne_iff_ne, ne_eq] at hb)
          dsimp only [List.length_nil, List.length_cons]
          rw [ha]
          omega)]
      | (simp only [Bool.or_eq_false_iff, decide_eq_false_iff_not, bne_eq_false_iff_eq] at hb
         rw [nodeI_ok (by dsimp only; omega) (by dsimp only [List.length_nil, List.length_cons]; rw [ha]; omega) (by dsimp only; omega) (by dsimp only; omega)]
         (try simp only [kindI, Int.reduceEq, or_false, false_or, or_true, true_or, or_self, if_true, if_false, ↓reduceIte, Int.reduceLE, decide_true, Bool.true_and])
         (try (refine congrArg (fun b : Bool => Tbool b) ?_; first | rfl | rfl | (rw [Bool.eq_iff_iff]; simp only [Bool.and_eq_true, decide_eq_true_eq, beq_iff_eq]; omega) | (simp; done) | (rw [Bool.eq_iff_iff]; simp; omega))))
set_option maxRecDepth 100000 in
set_option maxHeartbeats 2000000 in
theorem c_nodeOk18 (p : MProgram) (at_ n : Int) (s : ByteArray) (kids : List Int) (pats : List MPat) (hpl : pats.length ≤ 1048576) (hsz : s.size ≤ maxLen) (f : FuncId) (caps : List D) (nb : Bool) (hf : FCon Try.prog f (.ag (MNode.mk 18 at_ n s kids pats).enc :: caps.map .d) (· = Tbool nb)) :
    FCon Try.prog 83 [.ag p.enc, .ag (MNode.mk 18 at_ n s kids pats).enc, .d (.fn f caps)] (· = Tbool (nodeI p.nodes ⟨18, at_, n, s, kids, pats⟩ nb)) := by
  have ha : arI 18 = 2 := by decide
  refine FCon.intro Try.func83 (by kernel_rfl) rfl Try.ntmps83 rfl (by simp) ?_
  repeat' (first | with_reducible refine ACallQ_no ?_ | (with_reducible first | refine AC_sq ?_ | refine AC_block ?_ | refine AC_skip ?_ | refine AC_exit ?_ | refine AC_ret ?_ | refine K_sn ?_ | refine K_se ?_ | refine K_sr ?_ | refine K_bn ?_ | refine K_br ?_ | refine K_be ?_ | refine K_tn ?_ | refine K_te ?_ | refine K_tr ?_) | with_reducible refine K_bo (by decide) ?_ | ((first | ((with_reducible refine AC_region ?_ ?_); kernel_rfl) | ((with_reducible refine AC_drawG mixed ?_ ?_ ?_ ?_); (decide +kernel); kernel_rfl; kernel_rfl) | (with_reducible first | refine AC_if ?_ | refine ACall_go ?_ | refine ACallQ_go ?_ | refine (?_ : aops _ _ _ _ _) | refine (?_ : aqs _ _ _ _ _))); simp only [go_sem, Nat.reduceAdd, Nat.reduceSub, Nat.reduceMul, Nat.reduceMod, Nat.reduceEqDiff, Nat.reduceBNe, Nat.reduceBEq, Nat.reduceLeDiff, Nat.reduceLT, ↓reduceIte, reduceCtorEq, Int.reduceBEq, Int.reduceBNe, Int.reduceLE, Int.reduceLT, Int.reduceEq, Int.reduceNeg, Int.reduceGE, Int.reduceGT, ha]; fail_if_success (with_reducible refine (?_ : False))) | with_reducible refine And.intro ?_ ?_ | (refine CallG_mk (c_arity 18) ?_; rintro _ rfl) | (refine CallQ_mk (c_arity 18) ?_ ?_) | with_reducible refine CallQ_no ?_ | with_reducible exact False.elim | ((with_reducible refine (?_ : _ → AC _ _ _ _ _)); (intro hb; (try simp only [decide_eq_true_eq, decide_eq_false_iff_not, Bool.not_eq_true', Bool.not_eq_false', gt_iff_lt, ge_iff_le, Int.not_lt, Int.not_le] at hb); (try (exfalso; omega)))) | omega | simp only [go_sem, Nat.reduceAdd, Nat.reduceSub, Nat.reduceMul, Nat.reduceMod, Nat.reduceEqDiff, Nat.reduceBNe, Nat.reduceBEq, Nat.reduceLeDiff, Nat.reduceLT, ↓reduceIte, reduceCtorEq, Int.reduceBEq, Int.reduceBNe, Int.reduceLE, Int.reduceLT, Int.reduceEq, Int.reduceNeg, Int.reduceGE, Int.reduceGT, ha] | (intro hg; simp only [Bool.and_eq_true, Bool.or_eq_true, Bool.not_eq_true', Bool.and_eq_false_iff, Bool.or_eq_false_iff, Bool.not_eq_false', decide_eq_true_eq, decide_eq_false_iff_not, Bool.not_not, gt_iff_lt, ge_iff_le, Int.not_lt, Int.not_le] at hg ⊢; first | omega | (simp_all; done) | exact ⟨hg, by omega, by omega⟩ | exact ⟨by simp_all, by omega, by omega⟩ | fail) | ((with_reducible refine (?_ : _ = true → _)); intro hg; first | exact ⟨hg, by omega⟩ | exact ⟨hg, hg, by omega, by omega⟩ | exact ⟨hg, by omega, by omega⟩ | fail))
  all_goals
    ((first | with_reducible refine K_ret [] ?_ ?_ | with_reducible refine K_end [] ?_ ?_); decide; simp only [go_sem, Nat.reduceAdd, Nat.reduceSub, Nat.reduceMul, Nat.reduceMod, Nat.reduceEqDiff, Nat.reduceBNe, Nat.reduceBEq, Nat.reduceLeDiff, Nat.reduceLT, ↓reduceIte, reduceCtorEq])
    (try clear hf)
    first
      | rw [nodeI_bad (by
          (try simp only [Bool.or_eq_true, decide_eq_true_eq, bne_iff_ne, ne_eq] at hb)
          dsimp only [List.length_nil, List.length_cons]
          rw [ha]
          omega)]
      | (simp only [Bool.or_eq_false_iff, decide_eq_false_iff_not, bne_eq_false_iff_eq] at hb
         rw [nodeI_ok (by dsimp only; omega) (by dsimp only [List.length_nil, List.length_cons]; rw [ha]; omega) (by dsimp only; omega) (by dsimp only; omega)]
         (try simp only [kindI, Int.reduceEq, or_false, false_or, or_true, true_or, or_self, if_true, if_false, ↓reduceIte, Int.reduceLE, decide_true, Bool.true_and])
         (try (refine congrArg (fun b : Bool => Tbool b) ?_; first | rfl | rfl | (rw [Bool.eq_iff_iff]; simp only [Bool.and_eq_true, decide_eq_true_eq, beq_iff_eq]; omega) | (simp; done) | (rw [Bool.eq_iff_iff]; simp; omega))))
set_option maxRecDepth 100000 in
set_option maxHeartbeats 2000000 in
theorem c_nodeOk19 (p : MProgram) (at_ n : Int) (s : ByteArray) (kids : List Int) (pats : List MPat) (hpl : pats.length ≤ 1048576) (hsz : s.size ≤ maxLen) (f : FuncId) (caps : List D) (nb : Bool) (hf : FCon Try.prog f (.ag (MNode.mk 19 at_ n s kids pats).enc :: caps.map .d) (· = Tbool nb)) :
    FCon Try.prog 83 [.ag p.enc, .ag (MNode.mk 19 at_ n s kids pats).enc, .d (.fn f caps)] (· = Tbool (nodeI p.nodes ⟨19, at_, n, s, kids, pats⟩ nb)) := by
  have ha : arI 19 = 2 := by decide
  refine FCon.intro Try.func83 (by kernel_rfl) rfl Try.ntmps83 rfl (by simp) ?_
  repeat' (first | with_reducible refine ACallQ_no ?_ | (with_reducible first | refine AC_sq ?_ | refine AC_block ?_ | refine AC_skip ?_ | refine AC_exit ?_ | refine AC_ret ?_ | refine K_sn ?_ | refine K_se ?_ | refine K_sr ?_ | refine K_bn ?_ | refine K_br ?_ | refine K_be ?_ | refine K_tn ?_ | refine K_te ?_ | refine K_tr ?_) | with_reducible refine K_bo (by decide) ?_ | ((first | ((with_reducible refine AC_region ?_ ?_); kernel_rfl) | ((with_reducible refine AC_drawG mixed ?_ ?_ ?_ ?_); (decide +kernel); kernel_rfl; kernel_rfl) | (with_reducible first | refine AC_if ?_ | refine ACall_go ?_ | refine ACallQ_go ?_ | refine (?_ : aops _ _ _ _ _) | refine (?_ : aqs _ _ _ _ _))); simp only [go_sem, Nat.reduceAdd, Nat.reduceSub, Nat.reduceMul, Nat.reduceMod, Nat.reduceEqDiff, Nat.reduceBNe, Nat.reduceBEq, Nat.reduceLeDiff, Nat.reduceLT, ↓reduceIte, reduceCtorEq, Int.reduceBEq, Int.reduceBNe, Int.reduceLE, Int.reduceLT, Int.reduceEq, Int.reduceNeg, Int.reduceGE, Int.reduceGT, ha]; fail_if_success (with_reducible refine (?_ : False))) | with_reducible refine And.intro ?_ ?_ | (refine CallG_mk (c_arity 19) ?_; rintro _ rfl) | (refine CallQ_mk (c_arity 19) ?_ ?_) | with_reducible refine CallQ_no ?_ | with_reducible exact False.elim | ((with_reducible refine (?_ : _ → AC _ _ _ _ _)); (intro hb; (try simp only [decide_eq_true_eq, decide_eq_false_iff_not, Bool.not_eq_true', Bool.not_eq_false', gt_iff_lt, ge_iff_le, Int.not_lt, Int.not_le] at hb); (try (exfalso; omega)))) | omega | simp only [go_sem, Nat.reduceAdd, Nat.reduceSub, Nat.reduceMul, Nat.reduceMod, Nat.reduceEqDiff, Nat.reduceBNe, Nat.reduceBEq, Nat.reduceLeDiff, Nat.reduceLT, ↓reduceIte, reduceCtorEq, Int.reduceBEq, Int.reduceBNe, Int.reduceLE, Int.reduceLT, Int.reduceEq, Int.reduceNeg, Int.reduceGE, Int.reduceGT, ha] | (intro hg; simp only [Bool.and_eq_true, Bool.or_eq_true, Bool.not_eq_true', Bool.and_eq_false_iff, Bool.or_eq_false_iff, Bool.not_eq_false', decide_eq_true_eq, decide_eq_false_iff_not, Bool.not_not, gt_iff_lt, ge_iff_le, Int.not_lt, Int.not_le] at hg ⊢; first | omega | (simp_all; done) | exact ⟨hg, by omega, by omega⟩ | exact ⟨by simp_all, by omega, by omega⟩ | fail) | ((with_reducible refine (?_ : _ = true → _)); intro hg; first | exact ⟨hg, by omega⟩ | exact ⟨hg, hg, by omega, by omega⟩ | exact ⟨hg, by omega, by omega⟩ | fail))
  all_goals
    ((first | with_reducible refine K_ret [] ?_ ?_ | with_reducible refine K_end [] ?_ ?_); decide; simp only [go_sem, Nat.reduceAdd, Nat.reduceSub, Nat.reduceMul, Nat.reduceMod, Nat.reduceEqDiff, Nat.reduceBNe, Nat.reduceBEq, Nat.reduceLeDiff, Nat.reduceLT, ↓reduceIte, reduceCtorEq])
    (try clear hf)
    first
      | rw [nodeI_bad (by
          (try simp only [Bool.or_eq_true, decide_eq_true_eq, bne_iff_ne, ne_eq] at hb)
          dsimp only [List.length_nil, List.length_cons]
          rw [ha]
          omega)]
      | (simp only [Bool.or_eq_false_iff, decide_eq_false_iff_not, bne_eq_false_iff_eq] at hb
         rw [nodeI_ok (by dsimp only; omega) (by dsimp only [List.length_nil, List.length_cons]; rw [ha]; omega) (by dsimp only; omega) (by dsimp only; omega)]
         (try simp only [kindI, Int.reduceEq, or_false, false_or, or_true, true_or, or_self, if_true, if_false, ↓reduceIte, Int.reduceLE, decide_true, Bool.true_and])
         (try (refine congrArg (fun b : Bool => Tbool b) ?_; first | rfl | rfl | (rw [Bool.eq_iff_iff]; simp only [Bool.and_eq_true, decide_eq_true_eq, beq_iff_eq]; omega) | (simp; done) | (rw [Bool.eq_iff_iff]; simp; omega))))
set_option maxRecDepth 100000 in
set_option maxHeartbeats 2000000 in
theorem c_nodeOkX (p : MProgram) (kind : Int) (hkd : kind < 1 ∨ 19 < kind) (at_ n : Int) (s : ByteArray) (kids : List Int) (pats : List MPat) (hpl : pats.length ≤ 1048576) (hsz : s.size ≤ maxLen) (f : FuncId) (caps : List D) (nb : Bool) (hf : FCon Try.prog f (.ag (MNode.mk kind at_ n s kids pats).enc :: caps.map .d) (· = Tbool nb)) :
    FCon Try.prog 83 [.ag p.enc, .ag (MNode.mk kind at_ n s kids pats).enc, .d (.fn f caps)] (· = Tbool (nodeI p.nodes ⟨kind, at_, n, s, kids, pats⟩ nb)) := by
  have ha := arI_out hkd
  have e1 : (kind == 1) = false := by simp only [beq_eq_false_iff_ne, ne_eq]; omega
  have e2 : (kind == 2) = false := by simp only [beq_eq_false_iff_ne, ne_eq]; omega
  have e3 : (kind == 3) = false := by simp only [beq_eq_false_iff_ne, ne_eq]; omega
  have e4 : (kind == 4) = false := by simp only [beq_eq_false_iff_ne, ne_eq]; omega
  have e5 : (kind == 5) = false := by simp only [beq_eq_false_iff_ne, ne_eq]; omega
  have e6 : (kind == 6) = false := by simp only [beq_eq_false_iff_ne, ne_eq]; omega
  have e7 : (kind == 7) = false := by simp only [beq_eq_false_iff_ne, ne_eq]; omega
  have e8 : (kind == 8) = false := by simp only [beq_eq_false_iff_ne, ne_eq]; omega
  have e9 : (kind == 9) = false := by simp only [beq_eq_false_iff_ne, ne_eq]; omega
  have e10 : (kind == 10) = false := by simp only [beq_eq_false_iff_ne, ne_eq]; omega
  have e11 : (kind == 11) = false := by simp only [beq_eq_false_iff_ne, ne_eq]; omega
  have e12 : (kind == 12) = false := by simp only [beq_eq_false_iff_ne, ne_eq]; omega
  have e13 : (kind == 13) = false := by simp only [beq_eq_false_iff_ne, ne_eq]; omega
  have e14 : (kind == 14) = false := by simp only [beq_eq_false_iff_ne, ne_eq]; omega
  have e15 : (kind == 15) = false := by simp only [beq_eq_false_iff_ne, ne_eq]; omega
  have e16 : (kind == 16) = false := by simp only [beq_eq_false_iff_ne, ne_eq]; omega
  have e17 : (kind == 17) = false := by simp only [beq_eq_false_iff_ne, ne_eq]; omega
  have e18 : (kind == 18) = false := by simp only [beq_eq_false_iff_ne, ne_eq]; omega
  have e19 : (kind == 19) = false := by simp only [beq_eq_false_iff_ne, ne_eq]; omega
  have n1 : (kind != 1) = true := by simp only [bne_iff_ne, ne_eq]; omega
  have n3 : (kind != 3) = true := by simp only [bne_iff_ne, ne_eq]; omega
  have n13 : (kind != 13) = true := by simp only [bne_iff_ne, ne_eq]; omega
  have m1 : (kind = 1) = False := by rw [eq_iff_iff, iff_false]; omega
  have m2 : (kind = 2) = False := by rw [eq_iff_iff, iff_false]; omega
  have m3 : (kind = 3) = False := by rw [eq_iff_iff, iff_false]; omega
  have m4 : (kind = 4) = False := by rw [eq_iff_iff, iff_false]; omega
  have m5 : (kind = 5) = False := by rw [eq_iff_iff, iff_false]; omega
  have m6 : (kind = 6) = False := by rw [eq_iff_iff, iff_false]; omega
  have m7 : (kind = 7) = False := by rw [eq_iff_iff, iff_false]; omega
  have m8 : (kind = 8) = False := by rw [eq_iff_iff, iff_false]; omega
  have m9 : (kind = 9) = False := by rw [eq_iff_iff, iff_false]; omega
  have m10 : (kind = 10) = False := by rw [eq_iff_iff, iff_false]; omega
  have m11 : (kind = 11) = False := by rw [eq_iff_iff, iff_false]; omega
  have m12 : (kind = 12) = False := by rw [eq_iff_iff, iff_false]; omega
  have m13 : (kind = 13) = False := by rw [eq_iff_iff, iff_false]; omega
  have m14 : (kind = 14) = False := by rw [eq_iff_iff, iff_false]; omega
  have m15 : (kind = 15) = False := by rw [eq_iff_iff, iff_false]; omega
  have m16 : (kind = 16) = False := by rw [eq_iff_iff, iff_false]; omega
  have m17 : (kind = 17) = False := by rw [eq_iff_iff, iff_false]; omega
  have m18 : (kind = 18) = False := by rw [eq_iff_iff, iff_false]; omega
  have m19 : (kind = 19) = False := by rw [eq_iff_iff, iff_false]; omega
  refine FCon.intro Try.func83 (by kernel_rfl) rfl Try.ntmps83 rfl (by simp) ?_
  repeat' (first | with_reducible refine ACallQ_no ?_ | (with_reducible first | refine AC_sq ?_ | refine AC_block ?_ | refine AC_skip ?_ | refine AC_exit ?_ | refine AC_ret ?_ | refine K_sn ?_ | refine K_se ?_ | refine K_sr ?_ | refine K_bn ?_ | refine K_br ?_ | refine K_be ?_ | refine K_tn ?_ | refine K_te ?_ | refine K_tr ?_) | with_reducible refine K_bo (by decide) ?_ | ((first | ((with_reducible refine AC_region ?_ ?_); kernel_rfl) | ((with_reducible refine AC_drawG mixed ?_ ?_ ?_ ?_); (decide +kernel); kernel_rfl; kernel_rfl) | (with_reducible first | refine AC_if ?_ | refine ACall_go ?_ | refine ACallQ_go ?_ | refine (?_ : aops _ _ _ _ _) | refine (?_ : aqs _ _ _ _ _))); simp only [go_sem, Nat.reduceAdd, Nat.reduceSub, Nat.reduceMul, Nat.reduceMod, Nat.reduceEqDiff, Nat.reduceBNe, Nat.reduceBEq, Nat.reduceLeDiff, Nat.reduceLT, ↓reduceIte, reduceCtorEq, Int.reduceBEq, Int.reduceBNe, Int.reduceLE, Int.reduceLT, Int.reduceEq, Int.reduceNeg, Int.reduceGE, Int.reduceGT, ha, e1, e2, e3, e4, e5, e6, e7, e8, e9, e10, e11, e12, e13, e14, e15, e16, e17, e18, e19, n1, n3, n13]; fail_if_success (with_reducible refine (?_ : False))) | with_reducible refine And.intro ?_ ?_ | (refine CallG_mk (c_arity kind) ?_; rintro _ rfl) | (refine CallQ_mk (c_arity kind) ?_ ?_) | with_reducible refine CallQ_no ?_ | with_reducible exact False.elim | ((with_reducible refine (?_ : _ → AC _ _ _ _ _)); (intro hb; (try simp only [decide_eq_true_eq, decide_eq_false_iff_not, Bool.not_eq_true', Bool.not_eq_false', gt_iff_lt, ge_iff_le, Int.not_lt, Int.not_le] at hb); (try (exfalso; omega)))) | omega | simp only [go_sem, Nat.reduceAdd, Nat.reduceSub, Nat.reduceMul, Nat.reduceMod, Nat.reduceEqDiff, Nat.reduceBNe, Nat.reduceBEq, Nat.reduceLeDiff, Nat.reduceLT, ↓reduceIte, reduceCtorEq, Int.reduceBEq, Int.reduceBNe, Int.reduceLE, Int.reduceLT, Int.reduceEq, Int.reduceNeg, Int.reduceGE, Int.reduceGT, ha, e1, e2, e3, e4, e5, e6, e7, e8, e9, e10, e11, e12, e13, e14, e15, e16, e17, e18, e19, n1, n3, n13] | (intro hg; simp only [Bool.and_eq_true, Bool.or_eq_true, Bool.not_eq_true', Bool.and_eq_false_iff, Bool.or_eq_false_iff, Bool.not_eq_false', decide_eq_true_eq, decide_eq_false_iff_not, Bool.not_not, gt_iff_lt, ge_iff_le, Int.not_lt, Int.not_le] at hg ⊢; first | omega | (simp_all; done) | exact ⟨hg, by omega, by omega⟩ | exact ⟨by simp_all, by omega, by omega⟩ | fail) | ((with_reducible refine (?_ : _ = true → _)); intro hg; first | exact ⟨hg, by omega⟩ | exact ⟨hg, hg, by omega, by omega⟩ | exact ⟨hg, by omega, by omega⟩ | fail))
  all_goals
    ((first | with_reducible refine K_ret [] ?_ ?_ | with_reducible refine K_end [] ?_ ?_); decide; simp only [go_sem, Nat.reduceAdd, Nat.reduceSub, Nat.reduceMul, Nat.reduceMod, Nat.reduceEqDiff, Nat.reduceBNe, Nat.reduceBEq, Nat.reduceLeDiff, Nat.reduceLT, ↓reduceIte, reduceCtorEq])
    have g : kindI p.nodes ⟨kind, at_, n, s, kids, pats⟩ nb = false := by
      unfold kindI
      simp only [m1, m2, m3, m4, m5, m6, m7, m8, m9, m10, m11, m12, m13, m14, m15, m16, m17, m18, m19, or_self, if_false]
      rcases hkd with q | q
      · rw [decide_eq_false (by omega : ¬ 1 ≤ kind)]; rfl
      · rw [decide_eq_false (by omega : ¬ kind ≤ 19)]; simp
    unfold nodeI
    rw [g]; simp
end Go.Proofs.Ythmedgipfdoneaa
