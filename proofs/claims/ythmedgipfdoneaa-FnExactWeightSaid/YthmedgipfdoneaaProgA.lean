import Derived.Test.YthmedgipfdoneaaProgM
import Derived.Test.YthmedgipfdoneaaIdxE
/- Names, constructors, kinds over the engine. -/
namespace Go.Proofs.Ythmedgipfdoneaa
set_option linter.unusedVariables false
set_option linter.unusedSimpArgs false
attribute [local go_sem] eqCs aops_nil aops_cons pivB astep aopP aop1 aop2 aopF aopB aqs_nil aqs_cons aqst condT init_t init_b ev_t ev_i ev_b ev_s ev_nil ev_np ev_f put_t put_b put_n sc_t sc_b setB_t setB_b fr_t fr_b scT scE scC frT frE pAll_i pNot_i pMod_i bodyT oblT oblO lift2 liftE aBin aBinI aBinS aUn aLoad aFieldAddr aField aIndexAddr aIndex aSlice boundE aLen aConv aNil aPick aExtract rowsE intE cE cD eC cellsE aRows rowsK aBuild aFill lay aCaps grd gvT dstAt gdT kmin kmax rnT rnE rnC slT slE tk_2 tk_3 tk_4 tk_5 tk_6 tk_7 tk_8 tk_9 tk_10 tk_11 tk_12 tk_13 tk_14 tk_15 tk_16 tk_17 tk_18 tk_19 tk_21 tk_22 tk_23 tk_24 tk_25 tk_28 tk_29 tk_30 tk_31 tk_35 tk_36 tk_37 tk_38 tk_41 tk_42 tk_43 tk_44 tk_52 tk_53 tk_58 tk_61 tk_66 tk_67 tk_68 tk_70 tk_71 tk_72 tk_73 tk_74 tk_76 tk_77 tk_85 tk_86 tk_87 tk_92 tk_94 tk_95 tk_96 tk_99 tk_112 tk_113 tk_114 tk_116 tk_117 tk_119 tk_120 tk_134 tk_135 tk_142 tk_158 tk_162 tk_163 tk_164 tk_165 tk_166 tk_177 tk_181 tk_182 tk_187 tk_188 tk_189 tk_191 tk_192 tk_193 ck_2 ck_3 ck_4 ck_5 ck_6 ck_7 ck_8 ck_9 ck_10 ck_11 ck_12 ck_13 ck_14 ck_15 ck_16 ck_17 ck_18 ck_19 ck_21 ck_22 ck_23 ck_24 ck_25 ck_28 ck_29 ck_30 ck_31 ck_35 ck_36 ck_37 ck_38 ck_41 ck_42 ck_43 ck_44 ck_52 ck_53 ck_58 ck_61 ck_66 ck_67 ck_68 ck_70 ck_71 ck_72 ck_73 ck_74 ck_76 ck_77 ck_85 ck_86 ck_87 ck_92 ck_94 ck_95 ck_96 ck_99 ck_112 ck_113 ck_114 ck_116 ck_117 ck_119 ck_120 ck_134 ck_135 ck_142 ck_158 ck_162 ck_163 ck_164 ck_165 ck_166 ck_177 ck_181 ck_182 ck_187 ck_188 ck_189 ck_191 ck_192 ck_193 un_2 ik_2 un_3 ik_3 un_4 un_5 ik_5 un_6 ik_6 un_9 un_10 un_11 un_12 ik_12 un_15 un_16 un_17 un_21 ik_21 el_22 un_22 el_23 un_23 el_28 un_28 el_29 un_29 el_35 un_35 el_36 un_36 el_41 un_41 el_42 un_42 sq_53 el_58 un_58 el_61 un_61 el_66 un_66 el_70 un_70 el_85 un_85 sq_92 el_94 un_94 el_99 un_99 el_112 un_112 sq_120 un_142 ik_142 el_162 un_162 sq_177 un_187 ik_187 un_188 ik_188 un_189 ik_189 un_191 un_192 ik_192 un_193 ik_193 List.getElem?_toArray List.getElem?_cons_zero List.getElem?_cons_succ List.drop_zero List.drop_succ_cons List.take_zero List.take_succ_cons List.take_nil List.drop_nil List.map_cons List.map_nil List.append_nil List.nil_append List.cons_append List.length_cons List.length_nil List.length_map List.length_append Nat.zero_add Nat.add_zero Option.map_some Option.map_none Option.bind_some if_true if_false Bool.false_eq_true true_and and_true and_self true_implies implies_true List.toList_toArray Option.some.injEq Int.toNat_natCast bnil beq_true beq_false imp_self beq_self_eq_true bne_self_eq_false Bool.cond_true_left Bool.cond_true_right Bool.cond_false_left Bool.cond_false_right Bool.true_and Bool.and_true Bool.false_and Bool.and_false Bool.true_or Bool.or_true Bool.false_or Bool.or_false Bool.not_true Bool.not_false forall_const id_eq retM aRvs aRv mkRes cnT cnE cnC posT callM callQM aCallee aArgs argE Option.isSome_some
open Go.RowKit
/-- elder contracts of a text with an answer that is a Boolean. -/
theorem strB {f : FuncId} {fn : Func} {c : Code} (hf : Try.prog.funcs[f]? = some fn) (hname : (fn.name == "runtime.NumGoroutine") = false) (hb : fn.body = some c) {s : ByteArray} {b : Bool}
    (h : ∀ w, Calls Try.prog f #[.string s] w fun e w' => e = .returned (.bool b) ∧ Below w.heap.size w w') : FCon Try.prog f [.d (.s (.string s))] (· = Tbool b) := by
  refine FCon.ofBelow hf hname hb (Rv := (· = .bool b)) (fun v hv => by subst hv; exact ⟨rfl, rfl⟩) fun w S vs h1 h2 => ?_
  obtain ⟨v, rfl, hv⟩ := one_arg (P := fun _ b u => RA S w b u) h1 h2
  have : v = .string s := Rep.s_inv hv
  subst this
  exact (h w).mono fun e w' ⟨q1, q2⟩ => ⟨_, q1, rfl, q2⟩
theorem c_impl_NameOk (s : ByteArray) (hs : s.size ≤ maxLen) : FCon Try.prog 45 [.d (.s (.string s))] (· = Tbool (nameM s)) :=
  strB Try.func45 (by kernel_rfl) rfl fun w => impl_NameOk w s hs
theorem c_spec_NameOk (s : ByteArray) (hs : s.size ≤ maxLen) : FCon Try.prog 37 [.d (.s (.string s))] (· = Tbool (nameM s)) :=
  strB Try.func37 (by kernel_rfl) rfl fun w => spec_NameOk w s hs
theorem c_impl_ConOk (s : ByteArray) (hs : s.size ≤ maxLen) : FCon Try.prog 116 [.d (.s (.string s))] (· = Tbool (conM s.data.toList)) :=
  strB Try.func116 (by kernel_rfl) rfl fun w => (impl_ConOk w s hs).mono fun e w' ⟨q1, q2⟩ => ⟨q1, q2 ▸ Below.refl _ _⟩
theorem c_spec_ConOk (s : ByteArray) (hs : s.size ≤ maxLen) : FCon Try.prog 74 [.d (.s (.string s))] (· = Tbool (conM s.data.toList)) :=
  strB Try.func74 (by kernel_rfl) rfl fun w => (spec_ConOk w s hs).mono fun e w' ⟨q1, q2⟩ => ⟨q1, q2 ▸ Below.refl _ _⟩
theorem three_args {P : A → Value → Prop} {b c d : A} {vs : List Value} (hl : vs.length = [b, c, d].length) (h : ∀ (j : Nat) (x : A) (u : Value), [b, c, d][j]? = some x → vs[j]? = some u → P x u) : ∃ v u t, vs = [v, u, t] ∧ P b v ∧ P c u ∧ P d t := by
  match vs, hl with
  | [v, u, t], _ => exact ⟨v, u, t, rfl, h 0 b v rfl rfl, h 1 c u rfl rfl, h 2 d t rfl rfl⟩
theorem c_conShape (s : ByteArray) (hs : s.size ≤ maxLen) (k : Nat) (p : Bool) : FCon Try.prog 102 [.d (.s (.string s)), .d (.s (.int .i64 k)), .d (.s (.bool p))] (· = Tbool (shapeM s k p)) := by
  refine FCon.ofBelow Try.func102 (by kernel_rfl) rfl (Rv := (· = .bool (shapeM s k p))) (fun v hv => by subst hv; exact ⟨rfl, rfl⟩) fun w S vs h1 h2 => ?_
  obtain ⟨v, u, t, rfl, hv, hu, ht⟩ := three_args (P := fun b u => RA S w b u) h1 h2
  obtain rfl : v = .string s := Rep.s_inv hv
  obtain rfl : u = .int .i64 k := Rep.s_inv hu
  obtain rfl : t = .bool p := Rep.s_inv ht
  exact (impl_conShape w s hs k p).mono fun e w' ⟨q1, q2⟩ => ⟨_, q1, rfl, q2 ▸ Below.refl _ _⟩
theorem c_l04ConOk (s : ByteArray) (hs : s.size ≤ maxLen) (k : Nat) (p : Bool) : FCon Try.prog 77 [.d (.s (.string s)), .d (.s (.int .i64 k)), .d (.s (.bool p))] (· = Tbool (shapeM s k p)) := by
  refine FCon.ofBelow Try.func77 (by kernel_rfl) rfl (Rv := (· = .bool (shapeM s k p))) (fun v hv => by subst hv; exact ⟨rfl, rfl⟩) fun w S vs h1 h2 => ?_
  obtain ⟨v, u, t, rfl, hv, hu, ht⟩ := three_args (P := fun b u => RA S w b u) h1 h2
  obtain rfl : v = .string s := Rep.s_inv hv
  obtain rfl : u = .int .i64 k := Rep.s_inv hu
  obtain rfl : t = .bool p := Rep.s_inv ht
  exact (spec_l04ConOk w s hs k p).mono fun e w' ⟨q1, q2⟩ => ⟨_, q1, rfl, q2 ▸ Below.refl _ _⟩
theorem c_impl_PatOk (xs : List DPNode) (ho : ∀ x ∈ xs, x.ok) (hs : smS DPNode.sm xs) : FCon Try.prog 48 [.ag [patD xs]] (· = Tbool (patM xs)) := by
  refine FCon.ofBelow Try.func48 (by kernel_rfl) rfl (Rv := (· = .bool (patM xs))) (fun v hv => by subst hv; exact ⟨rfl, rfl⟩) fun w S vs h1 h2 => ?_
  obtain ⟨v, rfl, hv⟩ := one_arg (P := fun _ b u => RA S w b u) h1 h2
  obtain ⟨u, rfl, hu⟩ := ag_one hv
  exact (impl_PatOk w _ (Sub.self w) u xs (pnodeS_of hu ho) (by have := hs.1; omega) (fun k h => by have := (hs.2 _ (List.getElem_mem h)).2.1; omega)).mono fun e w' ⟨q1, q2⟩ => ⟨_, q1, rfl, q2⟩
theorem c_spec_PatOk (xs : List DPNode) (ho : ∀ x ∈ xs, x.ok) (hs : smS DPNode.sm xs) : FCon Try.prog 53 [.ag [patD xs]] (· = Tbool (patM xs)) := by
  refine FCon.ofBelow Try.func53 (by kernel_rfl) rfl (Rv := (· = .bool (patM xs))) (fun v hv => by subst hv; exact ⟨rfl, rfl⟩) fun w S vs h1 h2 => ?_
  obtain ⟨v, rfl, hv⟩ := one_arg (P := fun _ b u => RA S w b u) h1 h2
  obtain ⟨u, rfl, hu⟩ := ag_one hv
  exact (spec_PatOk w _ (Sub.self w) u xs (pnodeS_of hu ho) (by have := hs.1; omega) (fun k h => by have := (hs.2 _ (List.getElem_mem h)).2.1; omega)).mono fun e w' ⟨q1, q2⟩ => ⟨_, q1, rfl, q2⟩
set_option maxRecDepth 100000 in
theorem c_within (n a b : Int) : FCon Try.prog 60 [.d (.s (.int .i64 n)), .d (.s (.int .i64 a)), .d (.s (.int .i64 b))] (· = Tbool (decide (a ≤ n) && decide (n ≤ b))) := by
  refine FCon.intro Try.func60 (by kernel_rfl) rfl Try.ntmps60 rfl (by simp) ?_
  repeat' (first | (with_reducible first | refine AC_sq ?_ | refine AC_block ?_ | refine AC_skip ?_ | refine AC_exit ?_ | refine AC_ret ?_ | refine K_sn ?_ | refine K_se ?_ | refine K_sr ?_ | refine K_bn ?_ | refine K_br ?_ | refine K_be ?_ | refine K_tn ?_ | refine K_te ?_ | refine K_tr ?_) | with_reducible refine K_bo (by decide) ?_ | ((first | ((with_reducible refine AC_region ?_ ?_); kernel_rfl) | ((with_reducible refine AC_drawG mixed ?_ ?_ ?_ ?_); (decide +kernel); kernel_rfl; kernel_rfl) | (with_reducible first | refine AC_if ?_ | refine ACall_go ?_ | refine ACallQ_go ?_ | refine (?_ : aops _ _ _ _ _) | refine (?_ : aqs _ _ _ _ _))); simp only [go_sem, Nat.reduceAdd, Nat.reduceSub, Nat.reduceMul, Nat.reduceMod, Nat.reduceEqDiff, Nat.reduceBNe, Nat.reduceBEq, Nat.reduceLeDiff, Nat.reduceLT, ↓reduceIte, reduceCtorEq]; fail_if_success (with_reducible refine (?_ : False))) | with_reducible refine And.intro ?_ ?_ | with_reducible refine CallQ_no ?_ | with_reducible exact False.elim | ((with_reducible refine (?_ : _ → AC _ _ _ _ _)); (intro hb; (try simp only [decide_eq_true_eq, decide_eq_false_iff_not, Bool.not_eq_true', Bool.not_eq_false', gt_iff_lt, ge_iff_le, Int.not_lt, Int.not_le] at hb); (try (exfalso; omega)))) | omega | simp only [go_sem, Nat.reduceAdd, Nat.reduceSub, Nat.reduceMul, Nat.reduceMod, Nat.reduceEqDiff, Nat.reduceBNe, Nat.reduceBEq, Nat.reduceLeDiff, Nat.reduceLT, ↓reduceIte, reduceCtorEq] | (intro hg; simp only [Bool.and_eq_true, Bool.or_eq_true, Bool.not_eq_true', Bool.and_eq_false_iff, Bool.or_eq_false_iff, Bool.not_eq_false', decide_eq_true_eq, decide_eq_false_iff_not, Bool.not_not, gt_iff_lt, ge_iff_le, Int.not_lt, Int.not_le] at hg ⊢; first | omega | (simp_all; done) | exact ⟨hg, by omega, by omega⟩ | exact ⟨by simp_all, by omega, by omega⟩ | fail) | ((with_reducible refine (?_ : _ = true → _)); intro hg; first | exact ⟨hg, by omega⟩ | exact ⟨hg, hg, by omega, by omega⟩ | exact ⟨hg, by omega, by omega⟩ | fail))
  ((first | with_reducible refine K_ret [] ?_ ?_ | with_reducible refine K_end [] ?_ ?_); decide; simp only [go_sem, Nat.reduceAdd, Nat.reduceSub, Nat.reduceMul, Nat.reduceMod, Nat.reduceEqDiff, Nat.reduceBNe, Nat.reduceBEq, Nat.reduceLeDiff, Nat.reduceLT, ↓reduceIte, reduceCtorEq])
theorem arI_out {k : Int} (h : k < 1 ∨ 19 < k) : arI k = -1 := by
  unfold arI
  split
  · omega
  split
  · omega
  split
  · omega
  split
  · omega
  rfl
set_option maxRecDepth 100000 in
set_option maxHeartbeats 4000000 in
theorem c_arity (k : Int) : FCon Try.prog 114 [.d (.s (.int .i64 k))] (· = Tint (arI k)) := by
  by_cases hkd : k < 1 ∨ 19 < k
  · have ha := arI_out hkd
    have e1 : (k == 1) = false := by simp only [beq_eq_false_iff_ne, ne_eq]; omega
    have e2 : (k == 2) = false := by simp only [beq_eq_false_iff_ne, ne_eq]; omega
    have e3 : (k == 3) = false := by simp only [beq_eq_false_iff_ne, ne_eq]; omega
    have e4 : (k == 4) = false := by simp only [beq_eq_false_iff_ne, ne_eq]; omega
    have e5 : (k == 5) = false := by simp only [beq_eq_false_iff_ne, ne_eq]; omega
    have e6 : (k == 6) = false := by simp only [beq_eq_false_iff_ne, ne_eq]; omega
    have e7 : (k == 7) = false := by simp only [beq_eq_false_iff_ne, ne_eq]; omega
    have e8 : (k == 8) = false := by simp only [beq_eq_false_iff_ne, ne_eq]; omega
    have e9 : (k == 9) = false := by simp only [beq_eq_false_iff_ne, ne_eq]; omega
    have e10 : (k == 10) = false := by simp only [beq_eq_false_iff_ne, ne_eq]; omega
    have e11 : (k == 11) = false := by simp only [beq_eq_false_iff_ne, ne_eq]; omega
    have e12 : (k == 12) = false := by simp only [beq_eq_false_iff_ne, ne_eq]; omega
    have e13 : (k == 13) = false := by simp only [beq_eq_false_iff_ne, ne_eq]; omega
    have e14 : (k == 14) = false := by simp only [beq_eq_false_iff_ne, ne_eq]; omega
    have e15 : (k == 15) = false := by simp only [beq_eq_false_iff_ne, ne_eq]; omega
    have e16 : (k == 16) = false := by simp only [beq_eq_false_iff_ne, ne_eq]; omega
    have e17 : (k == 17) = false := by simp only [beq_eq_false_iff_ne, ne_eq]; omega
    have e18 : (k == 18) = false := by simp only [beq_eq_false_iff_ne, ne_eq]; omega
    have e19 : (k == 19) = false := by simp only [beq_eq_false_iff_ne, ne_eq]; omega
    clear hkd
    refine FCon.intro Try.func114 (by kernel_rfl) rfl Try.ntmps114 rfl (by simp) ?_
    repeat' (first | (with_reducible first | refine AC_sq ?_ | refine AC_block ?_ | refine AC_skip ?_ | refine AC_exit ?_ | refine AC_ret ?_ | refine K_sn ?_ | refine K_se ?_ | refine K_sr ?_ | refine K_bn ?_ | refine K_br ?_ | refine K_be ?_ | refine K_tn ?_ | refine K_te ?_ | refine K_tr ?_) | with_reducible refine K_bo (by decide) ?_ | ((first | ((with_reducible refine AC_region ?_ ?_); kernel_rfl) | ((with_reducible refine AC_drawG mixed ?_ ?_ ?_ ?_); (decide +kernel); kernel_rfl; kernel_rfl) | (with_reducible first | refine AC_if ?_ | refine ACall_go ?_ | refine ACallQ_go ?_ | refine (?_ : aops _ _ _ _ _) | refine (?_ : aqs _ _ _ _ _))); simp only [go_sem, Nat.reduceAdd, Nat.reduceSub, Nat.reduceMul, Nat.reduceMod, Nat.reduceEqDiff, Nat.reduceBNe, Nat.reduceBEq, Nat.reduceLeDiff, Nat.reduceLT, ↓reduceIte, reduceCtorEq, e1, e2, e3, e4, e5, e6, e7, e8, e9, e10, e11, e12, e13, e14, e15, e16, e17, e18, e19]; fail_if_success (with_reducible refine (?_ : False))) | with_reducible refine And.intro ?_ ?_ | with_reducible refine CallQ_no ?_ | with_reducible exact False.elim | ((with_reducible refine (?_ : _ → AC _ _ _ _ _)); (intro hb; (try simp only [decide_eq_true_eq, decide_eq_false_iff_not, Bool.not_eq_true', Bool.not_eq_false', gt_iff_lt, ge_iff_le, Int.not_lt, Int.not_le] at hb); (try (exfalso; omega)))) | omega | simp only [go_sem, Nat.reduceAdd, Nat.reduceSub, Nat.reduceMul, Nat.reduceMod, Nat.reduceEqDiff, Nat.reduceBNe, Nat.reduceBEq, Nat.reduceLeDiff, Nat.reduceLT, ↓reduceIte, reduceCtorEq, e1, e2, e3, e4, e5, e6, e7, e8, e9, e10, e11, e12, e13, e14, e15, e16, e17, e18, e19] | (intro hg; simp only [Bool.and_eq_true, Bool.or_eq_true, Bool.not_eq_true', Bool.and_eq_false_iff, Bool.or_eq_false_iff, Bool.not_eq_false', decide_eq_true_eq, decide_eq_false_iff_not, Bool.not_not, gt_iff_lt, ge_iff_le, Int.not_lt, Int.not_le] at hg ⊢; first | omega | (simp_all; done) | exact ⟨hg, by omega, by omega⟩ | exact ⟨by simp_all, by omega, by omega⟩ | fail) | ((with_reducible refine (?_ : _ = true → _)); intro hg; first | exact ⟨hg, by omega⟩ | exact ⟨hg, hg, by omega, by omega⟩ | exact ⟨hg, by omega, by omega⟩ | fail))
    all_goals (((first | with_reducible refine K_ret [] ?_ ?_ | with_reducible refine K_end [] ?_ ?_); decide; simp only [go_sem, Nat.reduceAdd, Nat.reduceSub, Nat.reduceMul, Nat.reduceMod, Nat.reduceEqDiff, Nat.reduceBNe, Nat.reduceBEq, Nat.reduceLeDiff, Nat.reduceLT, ↓reduceIte, reduceCtorEq]); rw [ha])
  · rcases (show k = 1 ∨ k = 2 ∨ k = 3 ∨ k = 4 ∨ k = 5 ∨ k = 6 ∨ k = 7 ∨ k = 8 ∨ k = 9 ∨ k = 10 ∨ k = 11 ∨ k = 12 ∨ k = 13 ∨ k = 14 ∨ k = 15 ∨ k = 16 ∨ k = 17 ∨ k = 18 ∨ k = 19 by omega) with rfl | rfl | rfl | rfl | rfl | rfl | rfl | rfl | rfl | rfl | rfl | rfl | rfl | rfl | rfl | rfl | rfl | rfl | rfl
    all_goals
      clear hkd
      refine FCon.intro Try.func114 (by kernel_rfl) rfl Try.ntmps114 rfl (by simp) ?_
      repeat' (first | (with_reducible first | refine AC_sq ?_ | refine AC_block ?_ | refine AC_skip ?_ | refine AC_exit ?_ | refine AC_ret ?_ | refine K_sn ?_ | refine K_se ?_ | refine K_sr ?_ | refine K_bn ?_ | refine K_br ?_ | refine K_be ?_ | refine K_tn ?_ | refine K_te ?_ | refine K_tr ?_) | with_reducible refine K_bo (by decide) ?_ | ((first | ((with_reducible refine AC_region ?_ ?_); kernel_rfl) | ((with_reducible refine AC_drawG mixed ?_ ?_ ?_ ?_); (decide +kernel); kernel_rfl; kernel_rfl) | (with_reducible first | refine AC_if ?_ | refine ACall_go ?_ | refine ACallQ_go ?_ | refine (?_ : aops _ _ _ _ _) | refine (?_ : aqs _ _ _ _ _))); simp only [go_sem, Nat.reduceAdd, Nat.reduceSub, Nat.reduceMul, Nat.reduceMod, Nat.reduceEqDiff, Nat.reduceBNe, Nat.reduceBEq, Nat.reduceLeDiff, Nat.reduceLT, ↓reduceIte, reduceCtorEq, Int.reduceBEq]; fail_if_success (with_reducible refine (?_ : False))) | with_reducible refine And.intro ?_ ?_ | with_reducible refine CallQ_no ?_ | with_reducible exact False.elim | ((with_reducible refine (?_ : _ → AC _ _ _ _ _)); (intro hb; (try simp only [decide_eq_true_eq, decide_eq_false_iff_not, Bool.not_eq_true', Bool.not_eq_false', gt_iff_lt, ge_iff_le, Int.not_lt, Int.not_le] at hb); (try (exfalso; omega)))) | omega | simp only [go_sem, Nat.reduceAdd, Nat.reduceSub, Nat.reduceMul, Nat.reduceMod, Nat.reduceEqDiff, Nat.reduceBNe, Nat.reduceBEq, Nat.reduceLeDiff, Nat.reduceLT, ↓reduceIte, reduceCtorEq, Int.reduceBEq] | (intro hg; simp only [Bool.and_eq_true, Bool.or_eq_true, Bool.not_eq_true', Bool.and_eq_false_iff, Bool.or_eq_false_iff, Bool.not_eq_false', decide_eq_true_eq, decide_eq_false_iff_not, Bool.not_not, gt_iff_lt, ge_iff_le, Int.not_lt, Int.not_le] at hg ⊢; first | omega | (simp_all; done) | exact ⟨hg, by omega, by omega⟩ | exact ⟨by simp_all, by omega, by omega⟩ | fail) | ((with_reducible refine (?_ : _ = true → _)); intro hg; first | exact ⟨hg, by omega⟩ | exact ⟨hg, hg, by omega, by omega⟩ | exact ⟨hg, by omega, by omega⟩ | fail))
      all_goals (((first | with_reducible refine K_ret [] ?_ ?_ | with_reducible refine K_end [] ?_ ?_); decide; simp only [go_sem, Nat.reduceAdd, Nat.reduceSub, Nat.reduceMul, Nat.reduceMod, Nat.reduceEqDiff, Nat.reduceBNe, Nat.reduceBEq, Nat.reduceLeDiff, Nat.reduceLT, ↓reduceIte, reduceCtorEq]); simp [arI])
set_option maxRecDepth 100000 in
set_option maxHeartbeats 4000000 in
theorem c_l04Kids (k : Int) : FCon Try.prog 78 [.d (.s (.int .i64 k))] (· = Tint (arI k)) := by
  by_cases hkd : k < 1 ∨ 19 < k
  · have ha := arI_out hkd
    have e1 : (k == 1) = false := by simp only [beq_eq_false_iff_ne, ne_eq]; omega
    have e2 : (k == 2) = false := by simp only [beq_eq_false_iff_ne, ne_eq]; omega
    have e3 : (k == 3) = false := by simp only [beq_eq_false_iff_ne, ne_eq]; omega
    have e4 : (k == 4) = false := by simp only [beq_eq_false_iff_ne, ne_eq]; omega
    have e5 : (k == 5) = false := by simp only [beq_eq_false_iff_ne, ne_eq]; omega
    have e6 : (k == 6) = false := by simp only [beq_eq_false_iff_ne, ne_eq]; omega
    have e7 : (k == 7) = false := by simp only [beq_eq_false_iff_ne, ne_eq]; omega
    have e8 : (k == 8) = false := by simp only [beq_eq_false_iff_ne, ne_eq]; omega
    have e9 : (k == 9) = false := by simp only [beq_eq_false_iff_ne, ne_eq]; omega
    have e10 : (k == 10) = false := by simp only [beq_eq_false_iff_ne, ne_eq]; omega
    have e11 : (k == 11) = false := by simp only [beq_eq_false_iff_ne, ne_eq]; omega
    have e12 : (k == 12) = false := by simp only [beq_eq_false_iff_ne, ne_eq]; omega
    have e13 : (k == 13) = false := by simp only [beq_eq_false_iff_ne, ne_eq]; omega
    have e14 : (k == 14) = false := by simp only [beq_eq_false_iff_ne, ne_eq]; omega
    have e15 : (k == 15) = false := by simp only [beq_eq_false_iff_ne, ne_eq]; omega
    have e16 : (k == 16) = false := by simp only [beq_eq_false_iff_ne, ne_eq]; omega
    have e17 : (k == 17) = false := by simp only [beq_eq_false_iff_ne, ne_eq]; omega
    have e18 : (k == 18) = false := by simp only [beq_eq_false_iff_ne, ne_eq]; omega
    have e19 : (k == 19) = false := by simp only [beq_eq_false_iff_ne, ne_eq]; omega
    clear hkd
    refine FCon.intro Try.func78 (by kernel_rfl) rfl Try.ntmps78 rfl (by simp) ?_
    repeat' (first | (with_reducible first | refine AC_sq ?_ | refine AC_block ?_ | refine AC_skip ?_ | refine AC_exit ?_ | refine AC_ret ?_ | refine K_sn ?_ | refine K_se ?_ | refine K_sr ?_ | refine K_bn ?_ | refine K_br ?_ | refine K_be ?_ | refine K_tn ?_ | refine K_te ?_ | refine K_tr ?_) | with_reducible refine K_bo (by decide) ?_ | ((first | ((with_reducible refine AC_region ?_ ?_); kernel_rfl) | ((with_reducible refine AC_drawG mixed ?_ ?_ ?_ ?_); (decide +kernel); kernel_rfl; kernel_rfl) | (with_reducible first | refine AC_if ?_ | refine ACall_go ?_ | refine ACallQ_go ?_ | refine (?_ : aops _ _ _ _ _) | refine (?_ : aqs _ _ _ _ _))); simp only [go_sem, Nat.reduceAdd, Nat.reduceSub, Nat.reduceMul, Nat.reduceMod, Nat.reduceEqDiff, Nat.reduceBNe, Nat.reduceBEq, Nat.reduceLeDiff, Nat.reduceLT, ↓reduceIte, reduceCtorEq, e1, e2, e3, e4, e5, e6, e7, e8, e9, e10, e11, e12, e13, e14, e15, e16, e17, e18, e19]; fail_if_success (with_reducible refine (?_ : False))) | with_reducible refine And.intro ?_ ?_ | with_reducible refine CallQ_no ?_ | with_reducible exact False.elim | ((with_reducible refine (?_ : _ → AC _ _ _ _ _)); (intro hb; (try simp only [decide_eq_true_eq, decide_eq_false_iff_not, Bool.not_eq_true', Bool.not_eq_false', gt_iff_lt, ge_iff_le, Int.not_lt, Int.not_le] at hb); (try (exfalso; omega)))) | omega | simp only [go_sem, Nat.reduceAdd, Nat.reduceSub, Nat.reduceMul, Nat.reduceMod, Nat.reduceEqDiff, Nat.reduceBNe, Nat.reduceBEq, Nat.reduceLeDiff, Nat.reduceLT, ↓reduceIte, reduceCtorEq, e1, e2, e3, e4, e5, e6, e7, e8, e9, e10, e11, e12, e13, e14, e15, e16, e17, e18, e19] | (intro hg; simp only [Bool.and_eq_true, Bool.or_eq_true, Bool.not_eq_true', Bool.and_eq_false_iff, Bool.or_eq_false_iff, Bool.not_eq_false', decide_eq_true_eq, decide_eq_false_iff_not, Bool.not_not, gt_iff_lt, ge_iff_le, Int.not_lt, Int.not_le] at hg ⊢; first | omega | (simp_all; done) | exact ⟨hg, by omega, by omega⟩ | exact ⟨by simp_all, by omega, by omega⟩ | fail) | ((with_reducible refine (?_ : _ = true → _)); intro hg; first | exact ⟨hg, by omega⟩ | exact ⟨hg, hg, by omega, by omega⟩ | exact ⟨hg, by omega, by omega⟩ | fail))
    all_goals (((first | with_reducible refine K_ret [] ?_ ?_ | with_reducible refine K_end [] ?_ ?_); decide; simp only [go_sem, Nat.reduceAdd, Nat.reduceSub, Nat.reduceMul, Nat.reduceMod, Nat.reduceEqDiff, Nat.reduceBNe, Nat.reduceBEq, Nat.reduceLeDiff, Nat.reduceLT, ↓reduceIte, reduceCtorEq]); rw [ha])
  · rcases (show k = 1 ∨ k = 2 ∨ k = 3 ∨ k = 4 ∨ k = 5 ∨ k = 6 ∨ k = 7 ∨ k = 8 ∨ k = 9 ∨ k = 10 ∨ k = 11 ∨ k = 12 ∨ k = 13 ∨ k = 14 ∨ k = 15 ∨ k = 16 ∨ k = 17 ∨ k = 18 ∨ k = 19 by omega) with rfl | rfl | rfl | rfl | rfl | rfl | rfl | rfl | rfl | rfl | rfl | rfl | rfl | rfl | rfl | rfl | rfl | rfl | rfl
    all_goals
      clear hkd
      refine FCon.intro Try.func78 (by kernel_rfl) rfl Try.ntmps78 rfl (by simp) ?_
      repeat' (first | (with_reducible first | refine AC_sq ?_ | refine AC_block ?_ | refine AC_skip ?_ | refine AC_exit ?_ | refine AC_ret ?_ | refine K_sn ?_ | refine K_se ?_ | refine K_sr ?_ | refine K_bn ?_ | refine K_br ?_ | refine K_be ?_ | refine K_tn ?_ | refine K_te ?_ | refine K_tr ?_) | with_reducible refine K_bo (by decide) ?_ | ((first | ((with_reducible refine AC_region ?_ ?_); kernel_rfl) | ((with_reducible refine AC_drawG mixed ?_ ?_ ?_ ?_); (decide +kernel); kernel_rfl; kernel_rfl) | (with_reducible first | refine AC_if ?_ | refine ACall_go ?_ | refine ACallQ_go ?_ | refine (?_ : aops _ _ _ _ _) | refine (?_ : aqs _ _ _ _ _))); simp only [go_sem, Nat.reduceAdd, Nat.reduceSub, Nat.reduceMul, Nat.reduceMod, Nat.reduceEqDiff, Nat.reduceBNe, Nat.reduceBEq, Nat.reduceLeDiff, Nat.reduceLT, ↓reduceIte, reduceCtorEq, Int.reduceBEq]; fail_if_success (with_reducible refine (?_ : False))) | with_reducible refine And.intro ?_ ?_ | with_reducible refine CallQ_no ?_ | with_reducible exact False.elim | ((with_reducible refine (?_ : _ → AC _ _ _ _ _)); (intro hb; (try simp only [decide_eq_true_eq, decide_eq_false_iff_not, Bool.not_eq_true', Bool.not_eq_false', gt_iff_lt, ge_iff_le, Int.not_lt, Int.not_le] at hb); (try (exfalso; omega)))) | omega | simp only [go_sem, Nat.reduceAdd, Nat.reduceSub, Nat.reduceMul, Nat.reduceMod, Nat.reduceEqDiff, Nat.reduceBNe, Nat.reduceBEq, Nat.reduceLeDiff, Nat.reduceLT, ↓reduceIte, reduceCtorEq, Int.reduceBEq] | (intro hg; simp only [Bool.and_eq_true, Bool.or_eq_true, Bool.not_eq_true', Bool.and_eq_false_iff, Bool.or_eq_false_iff, Bool.not_eq_false', decide_eq_true_eq, decide_eq_false_iff_not, Bool.not_not, gt_iff_lt, ge_iff_le, Int.not_lt, Int.not_le] at hg ⊢; first | omega | (simp_all; done) | exact ⟨hg, by omega, by omega⟩ | exact ⟨by simp_all, by omega, by omega⟩ | fail) | ((with_reducible refine (?_ : _ = true → _)); intro hg; first | exact ⟨hg, by omega⟩ | exact ⟨hg, hg, by omega, by omega⟩ | exact ⟨hg, by omega, by omega⟩ | fail))
      all_goals (((first | with_reducible refine K_ret [] ?_ ?_ | with_reducible refine K_end [] ?_ ?_); decide; simp only [go_sem, Nat.reduceAdd, Nat.reduceSub, Nat.reduceMul, Nat.reduceMod, Nat.reduceEqDiff, Nat.reduceBNe, Nat.reduceBEq, Nat.reduceLeDiff, Nat.reduceLT, ↓reduceIte, reduceCtorEq]); simp [arI])
end Go.Proofs.Ythmedgipfdoneaa
