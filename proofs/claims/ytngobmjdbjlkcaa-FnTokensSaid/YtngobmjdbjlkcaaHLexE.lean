import Derived.Test.YtngobmjdbjlkcaaHLexD
import Derived.Test.YtngobmjdbjlkcaaGn2
/- Lex of the program, over the second engine. -/
namespace Go.Proofs.Ytngobmjdbjlkcaa
set_option linter.unusedVariables false
set_option linter.unusedSimpArgs false
open Go.RowKit
theorem FCon.nilH {P : Program} {f : FuncId} {args : List D} {e k : Nat} {rows : List (List D)} {rest : List D} (h : FCon P f args (fun r _ => r = .tup (.osl e k rows :: rest) ∨ (rows = [] ∧ r = .tup (.nil :: rest)))) : FCon P f args (fun r _ => r = .tup (.osl e k rows :: rest)) := h.wk fun r o e' => by
  rcases e' with rfl | ⟨rfl, rfl⟩
  · exact ⟨_, rfl, fun _ _ _ q => q⟩
  · refine ⟨_, rfl, fun g w v q => ?_⟩
    obtain ⟨us, rfl, n1, n2⟩ := q
    refine ⟨us, rfl, by simpa using n1, fun m x u hx hu => ?_⟩
    match m, hx with
    | 0, hx =>
      simp at hx; subst hx
      exact Rep.nil_osl _ _ (n2 0 _ u rfl hu)
    | m + 1, hx => exact n2 (m + 1) x u hx hu
noncomputable def lexD (R : List MTok × Int × Int) : D := .tup [.osl 56 4 (R.1.map MTok.own), .s (.int .i64 R.2.1), .s (.int .i64 R.2.2)]
def bareL (R : List MTok × Int × Int) (r : D) : Prop := r = lexD R ∨ (R.1 = [] ∧ r = .tup [.nil, .s (.int .i64 R.2.1), .s (.int .i64 R.2.2)])
theorem bareL_nil {R : List MTok × Int × Int} {c p : Int} (h : R = ([], c, p)) : bareL R (.tup [.nil, .s (.int .i64 c), .s (.int .i64 p)]) := by subst h; exact .inr ⟨rfl, rfl⟩
theorem FCon.bareL {f : FuncId} {args : List D} {R : List MTok × Int × Int} (h : FCon Try.prog f args (fun r _ => bareL R r)) : FCon Try.prog f args (fun r _ => r = lexD R) := by
  refine FCon.nilH (h.mono fun r o q => ?_)
  rcases q with q | ⟨q1, q2⟩
  · exact .inl q
  · exact .inr ⟨by rw [q1]; rfl, q2⟩
theorem tok_pure (a b c d e f : Value) : Pure (.tup [.ag [.s a, .s b, .s c, .s d], .s e, .s f]) = True := eq_true (.tup fun j x hj => by
  match j, hj with
  | 0, hj =>
    simp at hj; subst hj
    refine .ag fun j x hj => ?_
    match j, hj with
    | 0, hj => simp at hj; subst hj; exact .s _
    | 1, hj => simp at hj; subst hj; exact .s _
    | 2, hj => simp at hj; subst hj; exact .s _
    | 3, hj => simp at hj; subst hj; exact .s _
  | 1, hj => simp at hj; subst hj; exact .s _
  | 2, hj => simp at hj; subst hj; exact .s _)
theorem tok_frz (ts : List MTok) : frzLL (ts.map MTok.own) = ts.map MTok.enc := MTok.frzS ts
set_option maxRecDepth 100000 in
set_option maxHeartbeats 4000000 in
theorem c_implLex (s : ByteArray) (hs0 : s.size ≤ 9223372036854775807) : FCon Try.prog 27 [.s (.string s)] (fun r _ => r = lexD (lexM s)) := by
  refine FCon.bareL ?_
  by_cases h4 : s.size ≤ 4000
  · have hM : lexM s = lexF s s.size 0 [] := by unfold lexM; rw [if_pos h4]
    rw [hM]
    have hs : s.size ≤ 1048576 := by omega
    refine FCon.intro PM _ Try.func27 (by kernel_rfl) rfl _ Try.ntmps27 rfl [(9, 6, [], [], [0, 1, 2, 3, 4, 5]), (12, 7, [], [], [0, 1, 2, 3, 4, 5, 6]), (13, 8, [7], [(7, 0)], [0, 1, 2, 3, 4, 5, 6, 7])] (by decide +kernel) (by simp) (by simp) rfl (by first | rfl | simp only [go_sem]) ?_
    repeat' (first | with_reducible refine ACallQ_no (.s (.bool false)) ?_ | ((with_reducible first | refine AC_go ?_ | refine ACallQ_go ?_ | refine (?_ : aft _ _ _ _ _ _) | refine (?_ : aops _ _ _ _ _) | refine (?_ : aqsN _ _ _ _ _ _ _ _)); simp only [go_sem, ↓reduceIte, Nat.reduceAdd, Nat.reduceSub, Nat.reduceMul, Nat.reduceMod, Nat.reduceDiv, Nat.reduceEqDiff, Nat.reduceBNe, Nat.reduceBEq, Nat.reduceLeDiff, Nat.reduceLT, reduceCtorEq]; fail_if_success (with_reducible refine (?_ : False))) | with_reducible refine And.intro ?_ ?_ | with_reducible refine CallQ_no ?_ | with_reducible exact False.elim | ((with_reducible refine (?_ : _ → AC _ _ _ _ _ _)); (intro hb; (try simp only [decide_eq_true_eq, decide_eq_false_iff_not, Bool.and_eq_true, Bool.or_eq_true, Bool.and_eq_false_iff, Bool.or_eq_false_iff, Bool.not_eq_true', Bool.not_eq_false', beq_iff_eq, beq_eq_false_iff_ne, bne_iff_ne, bne_eq_false_iff_eq, gt_iff_lt, ge_iff_le, Int.not_lt, Int.not_le] at hb); (try (exfalso; omega)))) | omega | simp only [go_sem, ↓reduceIte, Nat.reduceAdd, Nat.reduceSub, Nat.reduceMul, Nat.reduceMod, Nat.reduceDiv, Nat.reduceEqDiff, Nat.reduceBNe, Nat.reduceBEq, Nat.reduceLeDiff, Nat.reduceLT, reduceCtorEq] | (intro hg; simp only [Bool.and_eq_true, Bool.or_eq_true, Bool.not_eq_true', Bool.and_eq_false_iff, Bool.or_eq_false_iff, Bool.not_eq_false', decide_eq_true_eq, decide_eq_false_iff_not, Bool.not_not, gt_iff_lt, ge_iff_le, Int.not_lt, Int.not_le] at hg ⊢; first | omega | (simp_all; done) | fail))
    refine ACL_ac (AC_nil 14 2 3000014 56 4 (row := [.s (.string s), .s (.int .i64 0), .nil, .s (.int .i64 0)]) (by simp only [go_sem, ↓reduceIte, Nat.reduceAdd, Nat.reduceSub, Nat.reduceMul, Nat.reduceMod, Nat.reduceDiv, Nat.reduceEqDiff, Nat.reduceBNe, Nat.reduceBEq, Nat.reduceLeDiff, Nat.reduceLT, reduceCtorEq]) rfl (by decide) (by decide) (AC_go ?_))
    simp only [go_sem, ↓reduceIte, Nat.reduceAdd, Nat.reduceSub, Nat.reduceMul, Nat.reduceMod, Nat.reduceDiv, Nat.reduceEqDiff, Nat.reduceBNe, Nat.reduceBEq, Nat.reduceLeDiff, Nat.reduceLT, reduceCtorEq]
    refine AC_loop (fun n σ => ∃ (f k : Nat) (acc : List MTok), n = f ∧ s.size ≤ f + k ∧ k ≤ s.size ∧ acc.length ≤ k ∧ lexF s f k acc = lexF s s.size 0 [] ∧ σ.t 0 = .s (.string s) ∧ σ.t 5 = .bx 14 0 ∧ σ.b 14 = some (.box [.s (.string s), .s (.int .i64 k), .bs 3000014 4 acc.length, .s (.int .i64 0)]) ∧ σ.b 3000014 = some (.arr 56 4 (acc.map MTok.own))) s.size ⟨s.size, 0, [], rfl, by omega, by omega, by simp, rfl, ?_⟩ ?_
    · simp only [go_sem, ↓reduceIte, Nat.reduceAdd, Nat.reduceSub, Nat.reduceMul, Nat.reduceMod, Nat.reduceDiv, Nat.reduceEqDiff, Nat.reduceBNe, Nat.reduceBEq, Nat.reduceLeDiff, Nat.reduceLT, reduceCtorEq, Int.natCast_zero]
    · rintro n σ ⟨f, k, acc, rfl, hf, hk, hac, hw, h0, h5, hb0, hbl⟩ K' hK
      by_cases hlt : k < s.size
      · obtain ⟨f, rfl⟩ : ∃ g, n = g + 1 := ⟨n - 1, by omega⟩
        have hb1 := natI_lt hlt
        cases hbk : blankI (bAt s k) with
        | true =>
          rw [lexF_blank hlt hbk] at hw
          repeat' (first | with_reducible refine ACallQ_no (.s (.bool false)) ?_ | ((with_reducible first | refine AC_go ?_ | refine ACallQ_go ?_ | refine (?_ : aft _ _ _ _ _ _) | refine (?_ : aops _ _ _ _ _) | refine (?_ : aqsN _ _ _ _ _ _ _ _)); simp only [go_sem, ↓reduceIte, Nat.reduceAdd, Nat.reduceSub, Nat.reduceMul, Nat.reduceMod, Nat.reduceDiv, Nat.reduceEqDiff, Nat.reduceBNe, Nat.reduceBEq, Nat.reduceLeDiff, Nat.reduceLT, reduceCtorEq, h0, h5, hb0, hbl, hb1, bAt_at, hbk]; fail_if_success (with_reducible refine (?_ : False))) | with_reducible refine And.intro ?_ ?_ | (refine CallG_mk (FCon.noout (c_isBlank _)) ?_; rintro _ _ ⟨rfl, rfl⟩) | (refine CallQ_mk (c_isBlank _) ?_) | with_reducible refine CallQ_no ?_ | with_reducible exact False.elim | ((with_reducible refine (?_ : _ → AC _ _ _ _ _ _)); (intro hb; (try simp only [decide_eq_true_eq, decide_eq_false_iff_not, Bool.and_eq_true, Bool.or_eq_true, Bool.and_eq_false_iff, Bool.or_eq_false_iff, Bool.not_eq_true', Bool.not_eq_false', beq_iff_eq, beq_eq_false_iff_ne, bne_iff_ne, bne_eq_false_iff_eq, gt_iff_lt, ge_iff_le, Int.not_lt, Int.not_le] at hb); (try (exfalso; omega)))) | omega | simp only [go_sem, ↓reduceIte, Nat.reduceAdd, Nat.reduceSub, Nat.reduceMul, Nat.reduceMod, Nat.reduceDiv, Nat.reduceEqDiff, Nat.reduceBNe, Nat.reduceBEq, Nat.reduceLeDiff, Nat.reduceLT, reduceCtorEq, h0, h5, hb0, hbl, hb1, bAt_at, hbk] | (intro hg; simp only [Bool.and_eq_true, Bool.or_eq_true, Bool.not_eq_true', Bool.and_eq_false_iff, Bool.or_eq_false_iff, Bool.not_eq_false', decide_eq_true_eq, decide_eq_false_iff_not, Bool.not_not, gt_iff_lt, ge_iff_le, Int.not_lt, Int.not_le] at hg ⊢; first | omega | (simp_all; done) | fail))
          refine hK f _ (by omega) ⟨f, k + 1, acc, rfl, by omega, by omega, by omega, hw, ?_⟩
          simp only [go_sem, ↓reduceIte, Nat.reduceAdd, Nat.reduceSub, Nat.reduceMul, Nat.reduceMod, Nat.reduceDiv, Nat.reduceEqDiff, Nat.reduceBNe, Nat.reduceBEq, Nat.reduceLeDiff, Nat.reduceLT, reduceCtorEq, h0, h5, hb0, hbl, cast1]
        | false =>
          have hst := c_starts s k acc lpB hs (by omega) (by rw [lp_size]; omega)
          cases hlp : hasM s lpB k with
          | true =>
            have hrm := c_remark s k acc hs hlt hlp
            cases hr : remM s k with
            | none =>
              rw [lexF_norem hlt hbk hlp hr] at hw
              simp only [hr, Option.isSome_none, Option.getD_none] at hrm
              repeat' (first | with_reducible refine ACallQ_no (.s (.bool false)) ?_ | ((with_reducible first | refine AC_go ?_ | refine ACallQ_go ?_ | refine (?_ : aft _ _ _ _ _ _) | refine (?_ : aops _ _ _ _ _) | refine (?_ : aqsN _ _ _ _ _ _ _ _)); simp only [go_sem, ↓reduceIte, Nat.reduceAdd, Nat.reduceSub, Nat.reduceMul, Nat.reduceMod, Nat.reduceDiv, Nat.reduceEqDiff, Nat.reduceBNe, Nat.reduceBEq, Nat.reduceLeDiff, Nat.reduceLT, reduceCtorEq, h0, h5, hb0, hbl, hb1, bAt_at, hbk, hlp, tok_frz]; fail_if_success (with_reducible refine (?_ : False))) | with_reducible refine And.intro ?_ ?_ | (refine CallG_mk (FCon.noout (c_isBlank _)) ?_; rintro _ _ ⟨rfl, rfl⟩) | (refine CallQ_mk (c_isBlank _) ?_) | (refine CallG_mk (FCon.noout (hst)) ?_; rintro _ _ ⟨rfl, rfl⟩) | (refine CallQ_mk (hst) ?_) | (refine CallG_mk (hrm) ?_; rintro _ _ ⟨rfl, rfl⟩) | (refine CallQ_mk (hrm) ?_) | with_reducible refine CallQ_no ?_ | with_reducible exact False.elim | ((with_reducible refine (?_ : _ → AC _ _ _ _ _ _)); (intro hb; (try simp only [decide_eq_true_eq, decide_eq_false_iff_not, Bool.and_eq_true, Bool.or_eq_true, Bool.and_eq_false_iff, Bool.or_eq_false_iff, Bool.not_eq_true', Bool.not_eq_false', beq_iff_eq, beq_eq_false_iff_ne, bne_iff_ne, bne_eq_false_iff_eq, gt_iff_lt, ge_iff_le, Int.not_lt, Int.not_le] at hb); (try (exfalso; omega)))) | omega | simp only [go_sem, ↓reduceIte, Nat.reduceAdd, Nat.reduceSub, Nat.reduceMul, Nat.reduceMod, Nat.reduceDiv, Nat.reduceEqDiff, Nat.reduceBNe, Nat.reduceBEq, Nat.reduceLeDiff, Nat.reduceLT, reduceCtorEq, h0, h5, hb0, hbl, hb1, bAt_at, hbk, hlp, tok_frz] | (intro hg; simp only [Bool.and_eq_true, Bool.or_eq_true, Bool.not_eq_true', Bool.and_eq_false_iff, Bool.or_eq_false_iff, Bool.not_eq_false', decide_eq_true_eq, decide_eq_false_iff_not, Bool.not_not, gt_iff_lt, ge_iff_le, Int.not_lt, Int.not_le] at hg ⊢; first | omega | (simp_all; done) | fail))
              exact bareL_nil hw.symm
            | some j =>
              have hjb := remM_bd hr
              rw [lexF_rem hlt hbk hlp hr] at hw
              simp only [hr, Option.isSome_some, Option.getD_some] at hrm
              repeat' (first | with_reducible refine ACallQ_no (.s (.bool false)) ?_ | ((with_reducible first | refine AC_go ?_ | refine ACallQ_go ?_ | refine (?_ : aft _ _ _ _ _ _) | refine (?_ : aops _ _ _ _ _) | refine (?_ : aqsN _ _ _ _ _ _ _ _)); simp only [go_sem, ↓reduceIte, Nat.reduceAdd, Nat.reduceSub, Nat.reduceMul, Nat.reduceMod, Nat.reduceDiv, Nat.reduceEqDiff, Nat.reduceBNe, Nat.reduceBEq, Nat.reduceLeDiff, Nat.reduceLT, reduceCtorEq, h0, h5, hb0, hbl, hb1, bAt_at, hbk, hlp, tok_frz]; fail_if_success (with_reducible refine (?_ : False))) | with_reducible refine And.intro ?_ ?_ | (refine CallG_mk (FCon.noout (c_isBlank _)) ?_; rintro _ _ ⟨rfl, rfl⟩) | (refine CallQ_mk (c_isBlank _) ?_) | (refine CallG_mk (FCon.noout (hst)) ?_; rintro _ _ ⟨rfl, rfl⟩) | (refine CallQ_mk (hst) ?_) | (refine CallG_mk (hrm) ?_; rintro _ _ ⟨rfl, rfl⟩) | (refine CallQ_mk (hrm) ?_) | with_reducible refine CallQ_no ?_ | with_reducible exact False.elim | ((with_reducible refine (?_ : _ → AC _ _ _ _ _ _)); (intro hb; (try simp only [decide_eq_true_eq, decide_eq_false_iff_not, Bool.and_eq_true, Bool.or_eq_true, Bool.and_eq_false_iff, Bool.or_eq_false_iff, Bool.not_eq_true', Bool.not_eq_false', beq_iff_eq, beq_eq_false_iff_ne, bne_iff_ne, bne_eq_false_iff_eq, gt_iff_lt, ge_iff_le, Int.not_lt, Int.not_le] at hb); (try (exfalso; omega)))) | omega | simp only [go_sem, ↓reduceIte, Nat.reduceAdd, Nat.reduceSub, Nat.reduceMul, Nat.reduceMod, Nat.reduceDiv, Nat.reduceEqDiff, Nat.reduceBNe, Nat.reduceBEq, Nat.reduceLeDiff, Nat.reduceLT, reduceCtorEq, h0, h5, hb0, hbl, hb1, bAt_at, hbk, hlp, tok_frz] | (intro hg; simp only [Bool.and_eq_true, Bool.or_eq_true, Bool.not_eq_true', Bool.and_eq_false_iff, Bool.or_eq_false_iff, Bool.not_eq_false', decide_eq_true_eq, decide_eq_false_iff_not, Bool.not_not, gt_iff_lt, ge_iff_le, Int.not_lt, Int.not_le] at hg ⊢; first | omega | (simp_all; done) | fail))
              refine hK f _ (by omega) ⟨f, j, acc, rfl, by omega, by omega, by omega, hw, ?_⟩
              simp only [go_sem, ↓reduceIte, Nat.reduceAdd, Nat.reduceSub, Nat.reduceMul, Nat.reduceMod, Nat.reduceDiv, Nat.reduceEqDiff, Nat.reduceBNe, Nat.reduceBEq, Nat.reduceLeDiff, Nat.reduceLT, reduceCtorEq, h0, h5, hb0, hbl]
          | false =>
            have htk := c_token s k acc hs hlt
            unfold tokD at htk
            by_cases hc : (tokM s k).2.2 = 0
            · obtain ⟨b1, b2, b3⟩ := tokM_bd hlt hc
              rw [lexF_tok hlt hbk hlp hc] at hw
              rw [hc] at htk
              repeat' (first | with_reducible refine ACallQ_no (.s (.bool false)) ?_ | ((with_reducible first | refine AC_go ?_ | refine ACallQ_go ?_ | refine (?_ : aft _ _ _ _ _ _) | refine (?_ : aops _ _ _ _ _) | refine (?_ : aqsN _ _ _ _ _ _ _ _)); simp only [go_sem, ↓reduceIte, Nat.reduceAdd, Nat.reduceSub, Nat.reduceMul, Nat.reduceMod, Nat.reduceDiv, Nat.reduceEqDiff, Nat.reduceBNe, Nat.reduceBEq, Nat.reduceLeDiff, Nat.reduceLT, reduceCtorEq, h0, h5, hb0, hbl, hb1, bAt_at, hbk, hlp, tok_frz, tok_pure, MTok.enc_eq]; fail_if_success (with_reducible refine (?_ : False))) | with_reducible refine And.intro ?_ ?_ | (refine CallG_mk (FCon.noout (c_isBlank _)) ?_; rintro _ _ ⟨rfl, rfl⟩) | (refine CallQ_mk (c_isBlank _) ?_) | (refine CallG_mk (FCon.noout (hst)) ?_; rintro _ _ ⟨rfl, rfl⟩) | (refine CallQ_mk (hst) ?_) | (refine CallG_mk (FCon.noout (htk)) ?_; rintro _ _ ⟨rfl, rfl⟩) | (refine CallQ_mk (htk) ?_) | with_reducible refine CallQ_no ?_ | with_reducible exact False.elim | ((with_reducible refine (?_ : _ → AC _ _ _ _ _ _)); (intro hb; (try simp only [decide_eq_true_eq, decide_eq_false_iff_not, Bool.and_eq_true, Bool.or_eq_true, Bool.and_eq_false_iff, Bool.or_eq_false_iff, Bool.not_eq_true', Bool.not_eq_false', beq_iff_eq, beq_eq_false_iff_ne, bne_iff_ne, bne_eq_false_iff_eq, gt_iff_lt, ge_iff_le, Int.not_lt, Int.not_le] at hb); (try (exfalso; omega)))) | omega | simp only [go_sem, ↓reduceIte, Nat.reduceAdd, Nat.reduceSub, Nat.reduceMul, Nat.reduceMod, Nat.reduceDiv, Nat.reduceEqDiff, Nat.reduceBNe, Nat.reduceBEq, Nat.reduceLeDiff, Nat.reduceLT, reduceCtorEq, h0, h5, hb0, hbl, hb1, bAt_at, hbk, hlp, tok_frz, tok_pure, MTok.enc_eq] | (intro hg; simp only [Bool.and_eq_true, Bool.or_eq_true, Bool.not_eq_true', Bool.and_eq_false_iff, Bool.or_eq_false_iff, Bool.not_eq_false', decide_eq_true_eq, decide_eq_false_iff_not, Bool.not_not, gt_iff_lt, ge_iff_le, Int.not_lt, Int.not_le] at hg ⊢; first | omega | (simp_all; done) | fail))
              refine hK f _ (by omega) ⟨f, k + (tokM s k).2.1, acc ++ [(tokM s k).1], rfl, by omega, by omega, by simp; omega, hw, ?_⟩
              simp only [go_sem, ↓reduceIte, Nat.reduceAdd, Nat.reduceSub, Nat.reduceMul, Nat.reduceMod, Nat.reduceDiv, Nat.reduceEqDiff, Nat.reduceBNe, Nat.reduceBEq, Nat.reduceLeDiff, Nat.reduceLT, reduceCtorEq, h0, h5, hb0, hbl]
              exact ⟨by rw [Int.natCast_add], by rw [List.map_append]; rfl⟩
            · have e1 : ((tokM s k).2.2 != 0) = true := by simpa using hc
              rw [lexF_bad hlt hbk hlp hc] at hw
              repeat' (first | with_reducible refine ACallQ_no (.s (.bool false)) ?_ | ((with_reducible first | refine AC_go ?_ | refine ACallQ_go ?_ | refine (?_ : aft _ _ _ _ _ _) | refine (?_ : aops _ _ _ _ _) | refine (?_ : aqsN _ _ _ _ _ _ _ _)); simp only [go_sem, ↓reduceIte, Nat.reduceAdd, Nat.reduceSub, Nat.reduceMul, Nat.reduceMod, Nat.reduceDiv, Nat.reduceEqDiff, Nat.reduceBNe, Nat.reduceBEq, Nat.reduceLeDiff, Nat.reduceLT, reduceCtorEq, h0, h5, hb0, hbl, hb1, bAt_at, hbk, hlp, tok_frz, tok_pure, MTok.enc_eq, e1]; fail_if_success (with_reducible refine (?_ : False))) | with_reducible refine And.intro ?_ ?_ | (refine CallG_mk (FCon.noout (c_isBlank _)) ?_; rintro _ _ ⟨rfl, rfl⟩) | (refine CallQ_mk (c_isBlank _) ?_) | (refine CallG_mk (FCon.noout (hst)) ?_; rintro _ _ ⟨rfl, rfl⟩) | (refine CallQ_mk (hst) ?_) | (refine CallG_mk (FCon.noout (htk)) ?_; rintro _ _ ⟨rfl, rfl⟩) | (refine CallQ_mk (htk) ?_) | with_reducible refine CallQ_no ?_ | with_reducible exact False.elim | ((with_reducible refine (?_ : _ → AC _ _ _ _ _ _)); (intro hb; (try simp only [decide_eq_true_eq, decide_eq_false_iff_not, Bool.and_eq_true, Bool.or_eq_true, Bool.and_eq_false_iff, Bool.or_eq_false_iff, Bool.not_eq_true', Bool.not_eq_false', beq_iff_eq, beq_eq_false_iff_ne, bne_iff_ne, bne_eq_false_iff_eq, gt_iff_lt, ge_iff_le, Int.not_lt, Int.not_le] at hb); (try (exfalso; omega)))) | omega | simp only [go_sem, ↓reduceIte, Nat.reduceAdd, Nat.reduceSub, Nat.reduceMul, Nat.reduceMod, Nat.reduceDiv, Nat.reduceEqDiff, Nat.reduceBNe, Nat.reduceBEq, Nat.reduceLeDiff, Nat.reduceLT, reduceCtorEq, h0, h5, hb0, hbl, hb1, bAt_at, hbk, hlp, tok_frz, tok_pure, MTok.enc_eq, e1] | (intro hg; simp only [Bool.and_eq_true, Bool.or_eq_true, Bool.not_eq_true', Bool.and_eq_false_iff, Bool.or_eq_false_iff, Bool.not_eq_false', decide_eq_true_eq, decide_eq_false_iff_not, Bool.not_not, gt_iff_lt, ge_iff_le, Int.not_lt, Int.not_le] at hg ⊢; first | omega | (simp_all; done) | fail))
              exact bareL_nil hw.symm
      · have hb1 := natI_nlt hlt
        rw [lexF_end (by omega)] at hw
        repeat' (first | with_reducible refine ACallQ_no (.s (.bool false)) ?_ | ((with_reducible first | refine AC_go ?_ | refine ACallQ_go ?_ | refine (?_ : aft _ _ _ _ _ _) | refine (?_ : aops _ _ _ _ _) | refine (?_ : aqsN _ _ _ _ _ _ _ _)); simp only [go_sem, ↓reduceIte, Nat.reduceAdd, Nat.reduceSub, Nat.reduceMul, Nat.reduceMod, Nat.reduceDiv, Nat.reduceEqDiff, Nat.reduceBNe, Nat.reduceBEq, Nat.reduceLeDiff, Nat.reduceLT, reduceCtorEq, h0, h5, hb0, hbl, hb1]; fail_if_success (with_reducible refine (?_ : False))) | with_reducible refine And.intro ?_ ?_ | with_reducible refine CallQ_no ?_ | with_reducible exact False.elim | ((with_reducible refine (?_ : _ → AC _ _ _ _ _ _)); (intro hb; (try simp only [decide_eq_true_eq, decide_eq_false_iff_not, Bool.and_eq_true, Bool.or_eq_true, Bool.and_eq_false_iff, Bool.or_eq_false_iff, Bool.not_eq_true', Bool.not_eq_false', beq_iff_eq, beq_eq_false_iff_ne, bne_iff_ne, bne_eq_false_iff_eq, gt_iff_lt, ge_iff_le, Int.not_lt, Int.not_le] at hb); (try (exfalso; omega)))) | omega | simp only [go_sem, ↓reduceIte, Nat.reduceAdd, Nat.reduceSub, Nat.reduceMul, Nat.reduceMod, Nat.reduceDiv, Nat.reduceEqDiff, Nat.reduceBNe, Nat.reduceBEq, Nat.reduceLeDiff, Nat.reduceLT, reduceCtorEq, h0, h5, hb0, hbl, hb1] | (intro hg; simp only [Bool.and_eq_true, Bool.or_eq_true, Bool.not_eq_true', Bool.and_eq_false_iff, Bool.or_eq_false_iff, Bool.not_eq_false', decide_eq_true_eq, decide_eq_false_iff_not, Bool.not_not, gt_iff_lt, ge_iff_le, Int.not_lt, Int.not_le] at hg ⊢; first | omega | (simp_all; done) | fail))
        rw [← hw]
        exact .inl rfl
  · have hM : lexM s = ([], 1, 0) := by unfold lexM; rw [if_neg h4]
    rw [hM]
    refine FCon.intro PM _ Try.func27 (by kernel_rfl) rfl _ Try.ntmps27 rfl [(9, 6, [], [], [0, 1, 2, 3, 4, 5]), (12, 7, [], [], [0, 1, 2, 3, 4, 5, 6]), (13, 8, [7], [(7, 0)], [0, 1, 2, 3, 4, 5, 6, 7])] (by decide +kernel) (by simp) (by simp) rfl (by first | rfl | simp only [go_sem]) ?_
    repeat' (first | with_reducible refine ACallQ_no (.s (.bool false)) ?_ | ((with_reducible first | refine AC_go ?_ | refine ACallQ_go ?_ | refine (?_ : aft _ _ _ _ _ _) | refine (?_ : aops _ _ _ _ _) | refine (?_ : aqsN _ _ _ _ _ _ _ _)); simp only [go_sem, ↓reduceIte, Nat.reduceAdd, Nat.reduceSub, Nat.reduceMul, Nat.reduceMod, Nat.reduceDiv, Nat.reduceEqDiff, Nat.reduceBNe, Nat.reduceBEq, Nat.reduceLeDiff, Nat.reduceLT, reduceCtorEq]; fail_if_success (with_reducible refine (?_ : False))) | with_reducible refine And.intro ?_ ?_ | with_reducible refine CallQ_no ?_ | with_reducible exact False.elim | ((with_reducible refine (?_ : _ → AC _ _ _ _ _ _)); (intro hb; (try simp only [decide_eq_true_eq, decide_eq_false_iff_not, Bool.and_eq_true, Bool.or_eq_true, Bool.and_eq_false_iff, Bool.or_eq_false_iff, Bool.not_eq_true', Bool.not_eq_false', beq_iff_eq, beq_eq_false_iff_ne, bne_iff_ne, bne_eq_false_iff_eq, gt_iff_lt, ge_iff_le, Int.not_lt, Int.not_le] at hb); (try (exfalso; omega)))) | omega | simp only [go_sem, ↓reduceIte, Nat.reduceAdd, Nat.reduceSub, Nat.reduceMul, Nat.reduceMod, Nat.reduceDiv, Nat.reduceEqDiff, Nat.reduceBNe, Nat.reduceBEq, Nat.reduceLeDiff, Nat.reduceLT, reduceCtorEq] | (intro hg; simp only [Bool.and_eq_true, Bool.or_eq_true, Bool.not_eq_true', Bool.and_eq_false_iff, Bool.or_eq_false_iff, Bool.not_eq_false', decide_eq_true_eq, decide_eq_false_iff_not, Bool.not_not, gt_iff_lt, ge_iff_le, Int.not_lt, Int.not_le] at hg ⊢; first | omega | (simp_all; done) | fail))
    exact bareL_nil rfl
end Go.Proofs.Ytngobmjdbjlkcaa
