import Derived.Test.YtngobmjdbjlkcaaHLexF
import Derived.Test.YtngobmjdbjlkcaaHInt
/- The law of Lex, over the second engine. -/
namespace Go.Proofs.Ytngobmjdbjlkcaa
set_option linter.unusedVariables false
set_option linter.unusedSimpArgs false
open Go.RowKit
theorem lexF_len (s : ByteArray) : ∀ (f i : Nat) (acc : List MTok), (lexF s f i acc).1.length ≤ acc.length + f
  | 0, i, acc => by simp [lexF]
  | f + 1, i, acc => by
    rw [lexF]
    split
    · simp
    · split
      · have := lexF_len s f (i + 1) acc; omega
      · split
        · split
          · simp
          · rename_i j _; have := lexF_len s f j acc; omega
        · split
          · have := lexF_len s f (i + (tokM s i).2.1) (acc ++ [(tokM s i).1])
            simp at this; omega
          · simp
theorem lexM_len (s : ByteArray) : (lexM s).1.length ≤ 4000 := by
  unfold lexM
  split
  · have := lexF_len s s.size 0 []; simp at this; omega
  · simp
theorem pure_tupL (xs : List D) : Pure (.tup xs) = ∀ d ∈ xs, Pure d := propext ⟨fun h d hd => by
  obtain ⟨j, hj⟩ := List.mem_iff_getElem?.1 hd
  cases h with
  | tup h => exact h j d hj, fun h => .tup fun j d hj => h d (List.mem_of_getElem? hj)⟩
theorem lexD_eq (R : List MTok × Int × Int) : lexD R = .tup [.osl 56 4 (R.1.map MTok.own), .s (.int .i64 R.2.1), .s (.int .i64 R.2.2)] := rfl
set_option maxRecDepth 100000 in
set_option maxHeartbeats 4000000 in
theorem c_FnExactLex (s : ByteArray) : FCon Try.prog 5 [.s (.string s)] (fun r _ => r = .s (.bool true)) := by
  by_cases hz : s.size ≤ 1048576
  · have hn := lexM_len s
    have hb : decide ((s.size : Int) > 1048576) = false := by simp; omega
    have hc2 : cnts MTok.cnt (lexM s).1 = 4 * (lexM s).1.length := cnts_const (fun _ => rfl) _
    refine FCon.intro PM _ Try.func5 (by kernel_rfl) rfl _ Try.ntmps5 rfl [] (by decide +kernel) (by simp) (by simp) rfl (by first | rfl | simp only [go_sem]) ?_
    repeat' (first | with_reducible refine ACallQ_no (.s (.bool false)) ?_ | ((with_reducible first | refine AC_go ?_ | refine ACallQ_go ?_ | refine (?_ : aft _ _ _ _ _ _) | refine (?_ : aops _ _ _ _ _) | refine (?_ : aqsN _ _ _ _ _ _ _ _)); simp only [go_sem, ↓reduceIte, Nat.reduceAdd, Nat.reduceSub, Nat.reduceMul, Nat.reduceMod, Nat.reduceDiv, Nat.reduceEqDiff, Nat.reduceBNe, Nat.reduceBEq, Nat.reduceLeDiff, Nat.reduceLT, reduceCtorEq, hb, lexD_eq, marks_len, pure_tupL]; fail_if_success (with_reducible refine (?_ : False))) | with_reducible refine And.intro ?_ ?_ | (refine CallG_mk (FCon.noout (c_specLex s (by omega))) ?_; rintro _ _ ⟨rfl, rfl⟩) | (refine CallQ_mk (c_specLex s (by omega)) ?_) | (refine CallG_mk (FCon.noout (c_implLex s (by omega))) ?_; rintro _ _ ⟨rfl, rfl⟩) | (refine CallQ_mk (c_implLex s (by omega)) ?_) | (refine CallG_mk (FCon.noout (c_eqTokS (lexM s).1)) ?_; rintro _ _ ⟨rfl, rfl⟩) | (refine CallQ_mk (c_eqTokS (lexM s).1) ?_) | (refine CallG_mk (c_markTokS (lexM s).1 (by omega) 1 (by omega) (by omega)) ?_; rintro _ _ ⟨rfl, rfl⟩) | (refine CallQ_mk (c_markTokS (lexM s).1 (by omega) 1 (by omega) (by omega)) ?_) | (refine CallG_mk (FCon.noout (c_heldTokS (lexM s).1 (by omega) 1 (by omega) (by omega))) ?_; rintro _ _ ⟨rfl, rfl⟩) | (refine CallQ_mk (c_heldTokS (lexM s).1 (by omega) 1 (by omega) (by omega)) ?_) | with_reducible refine CallQ_no ?_ | with_reducible exact False.elim | ((with_reducible refine (?_ : _ → AC _ _ _ _ _ _)); (intro hb; (try simp only [decide_eq_true_eq, decide_eq_false_iff_not, Bool.and_eq_true, Bool.or_eq_true, Bool.and_eq_false_iff, Bool.or_eq_false_iff, Bool.not_eq_true', Bool.not_eq_false', beq_iff_eq, beq_eq_false_iff_ne, bne_iff_ne, bne_eq_false_iff_eq, gt_iff_lt, ge_iff_le, Int.not_lt, Int.not_le] at hb); (try (exfalso; omega)))) | omega | simp only [go_sem, ↓reduceIte, Nat.reduceAdd, Nat.reduceSub, Nat.reduceMul, Nat.reduceMod, Nat.reduceDiv, Nat.reduceEqDiff, Nat.reduceBNe, Nat.reduceBEq, Nat.reduceLeDiff, Nat.reduceLT, reduceCtorEq, hb, lexD_eq, marks_len, pure_tupL] | (intro hg; simp only [Bool.and_eq_true, Bool.or_eq_true, Bool.not_eq_true', Bool.and_eq_false_iff, Bool.or_eq_false_iff, Bool.not_eq_false', decide_eq_true_eq, decide_eq_false_iff_not, Bool.not_not, gt_iff_lt, ge_iff_le, Int.not_lt, Int.not_le] at hg ⊢; first | omega | (simp_all; done) | fail))
  · have hb : decide ((s.size : Int) > 1048576) = true := by simp; omega
    refine FCon.intro PM _ Try.func5 (by kernel_rfl) rfl _ Try.ntmps5 rfl [] (by decide +kernel) (by simp) (by simp) rfl (by first | rfl | simp only [go_sem]) ?_
    repeat' (first | with_reducible refine ACallQ_no (.s (.bool false)) ?_ | ((with_reducible first | refine AC_go ?_ | refine ACallQ_go ?_ | refine (?_ : aft _ _ _ _ _ _) | refine (?_ : aops _ _ _ _ _) | refine (?_ : aqsN _ _ _ _ _ _ _ _)); simp only [go_sem, ↓reduceIte, Nat.reduceAdd, Nat.reduceSub, Nat.reduceMul, Nat.reduceMod, Nat.reduceDiv, Nat.reduceEqDiff, Nat.reduceBNe, Nat.reduceBEq, Nat.reduceLeDiff, Nat.reduceLT, reduceCtorEq, hb]; fail_if_success (with_reducible refine (?_ : False))) | with_reducible refine And.intro ?_ ?_ | with_reducible refine CallQ_no ?_ | with_reducible exact False.elim | ((with_reducible refine (?_ : _ → AC _ _ _ _ _ _)); (intro hb; (try simp only [decide_eq_true_eq, decide_eq_false_iff_not, Bool.and_eq_true, Bool.or_eq_true, Bool.and_eq_false_iff, Bool.or_eq_false_iff, Bool.not_eq_true', Bool.not_eq_false', beq_iff_eq, beq_eq_false_iff_ne, bne_iff_ne, bne_eq_false_iff_eq, gt_iff_lt, ge_iff_le, Int.not_lt, Int.not_le] at hb); (try (exfalso; omega)))) | omega | simp only [go_sem, ↓reduceIte, Nat.reduceAdd, Nat.reduceSub, Nat.reduceMul, Nat.reduceMod, Nat.reduceDiv, Nat.reduceEqDiff, Nat.reduceBNe, Nat.reduceBEq, Nat.reduceLeDiff, Nat.reduceLT, reduceCtorEq, hb] | (intro hg; simp only [Bool.and_eq_true, Bool.or_eq_true, Bool.not_eq_true', Bool.and_eq_false_iff, Bool.or_eq_false_iff, Bool.not_eq_false', decide_eq_true_eq, decide_eq_false_iff_not, Bool.not_not, gt_iff_lt, ge_iff_le, Int.not_lt, Int.not_le] at hg ⊢; first | omega | (simp_all; done) | fail))
end Go.Proofs.Ytngobmjdbjlkcaa
