import Derived.Test.YtngobmjdbjlkcaaHLexL
import Derived.Test.YtngobmjdbjlkcaaDrLex
/- The law of tokens, over the second engine. -/
namespace Go.Proofs.Ytngobmjdbjlkcaa
set_option linter.unusedVariables false
set_option linter.unusedSimpArgs false
open Go.RowKit
def tokGood (t : MTok) : Prop := (t.kind = 3 → nameM t.s = true) ∧ (t.kind = 4 → conM t.s.data.toList = true) ∧ t.s.size ≤ 1048576
/-- the offsets rise, all before k. -/
def goodT (acc : List MTok) (k : Nat) : Prop := (∀ t ∈ acc, tokGood t ∧ t.at_ < k) ∧ acc.Pairwise (fun a b => a.at_ < b.at_)
theorem goodT_mono {acc : List MTok} {k j : Nat} (h : goodT acc k) (hj : k ≤ j) : goodT acc j := ⟨fun t ht => ⟨(h.1 t ht).1, by have := (h.1 t ht).2; omega⟩, h.2⟩
theorem goodT_add {acc : List MTok} {k n : Nat} {t : MTok} (h : goodT acc k) (ht : tokGood t) (ha : t.at_ = k) (hn : 1 ≤ n) : goodT (acc ++ [t]) (k + n) := by
  refine ⟨fun x hx => ?_, ?_⟩
  · rcases List.mem_append.1 hx with q | q
    · exact ⟨(h.1 x q).1, by have := (h.1 x q).2; omega⟩
    · simp at q; subst q; exact ⟨ht, by omega⟩
  · rw [List.pairwise_append]
    refine ⟨h.2, by simp, fun a ha' b hb => ?_⟩
    simp at hb; subst hb
    have := (h.1 a ha').2; omega
theorem quo_len {t l : List UInt8} (h : quoL t = l) : t.length ≤ l.length := by
  subst h
  have key : ∀ l : List UInt8, l.length ≤ (l.flatMap quoB).length := by
    intro l
    induction l with
    | nil => simp
    | cons b l ih =>
      have hb : 1 ≤ (quoB b).length := by rcases quoB_cases b with ⟨q, _⟩ | ⟨q, _⟩ | ⟨q, _⟩ | q <;> rw [q] <;> simp
      simp only [List.flatMap_cons, List.length_append, List.length_cons]; omega
  have := key t
  unfold quoL; simp only [List.length_append, List.length_cons, List.length_nil]; omega
theorem tokM_good {s : ByteArray} {i : Nat} (hs : s.size ≤ 1048576) (h : i < s.size) (h0 : (tokM s i).2.2 = 0) : tokGood (tokM s i).1 := by
  have hw := wordE_bd (s := s) (k := i) (by omega)
  have hsz := ext_size (i := i) hw.2
  have hle : (s.extract i (wordE s i)).size ≤ 1048576 := by omega
  have n0 : noB.size ≤ 1048576 := by decide
  unfold tokM at h0 ⊢
  split
  · split
    · exact ⟨fun q => (by cases q), fun q => (by cases q), n0⟩
    · exact ⟨fun q => (by cases q), fun q => (by cases q), n0⟩
  · rename_i hd
    rw [if_neg hd] at h0
    split
    · rename_i hl
      rw [if_pos hl] at h0
      split
      · rename_i q1; exact ⟨fun _ => q1, fun q => (by cases q), hle⟩
      · rename_i q1
        rw [if_neg q1] at h0
        split
        · rename_i q2; exact ⟨fun q => (by cases q), fun _ => q2, hle⟩
        · split
          · exact ⟨fun q => (by cases q), fun q => (by cases q), hle⟩
          · exact ⟨fun q => (by cases q), fun q => (by cases q), hle⟩
    · split
      · exact ⟨fun q => (by cases q), fun q => (by cases q), n0⟩
      · split
        · split
          · exact ⟨fun q => (by cases q), fun q => (by cases q), n0⟩
          · rename_i j hj
            split
            · exact ⟨fun q => (by cases q), fun q => (by cases q), n0⟩
            · rename_i t ht
              refine ⟨fun q => (by cases q), fun q => (by cases q), ?_⟩
              have h1 := quo_len (unqO_spec ht)
              have h2 : (s.extract i (j + 1)).size ≤ s.size := by rw [ByteArray.size_extract]; omega
              show t.toArray.size ≤ _
              have h3 : (s.extract i (j + 1)).data.toList.length = (s.extract i (j + 1)).size := rfl
              simp only [List.size_toArray]
              omega
        · split
          · exact ⟨fun q => (by cases q), fun q => (by cases q), n0⟩
          · refine ⟨fun q => (by cases q), fun q => (by cases q), ?_⟩
            rcases signM_cases s i with q | q
            · show (signM s i).size ≤ _; rw [q]; decide
            · show (signM s i).size ≤ _; omega
theorem lexF_good (s : ByteArray) (hs : s.size ≤ 1048576) : ∀ (f k : Nat) (acc : List MTok), goodT acc k → ∃ j, goodT (lexF s f k acc).1 j
  | 0, k, acc, h => ⟨k, h⟩
  | f + 1, k, acc, h => by
    by_cases hk : s.size ≤ k
    · rw [lexF_end hk]; exact ⟨k, h⟩
    · have hk : k < s.size := by omega
      have hnil : goodT [] 0 := ⟨fun t ht => (by cases ht), List.Pairwise.nil⟩
      cases hb : blankI (bAt s k) with
      | true => rw [lexF_blank hk hb]; exact lexF_good s hs f (k + 1) acc (goodT_mono h (by omega))
      | false =>
        cases hl : hasM s lpB k with
        | true =>
          cases hr : remM s k with
          | none => rw [lexF_norem hk hb hl hr]; exact ⟨0, hnil⟩
          | some j =>
            rw [lexF_rem hk hb hl hr]
            exact lexF_good s hs f j acc (goodT_mono h (by have := remM_bd hr; omega))
        | false =>
          by_cases hc : (tokM s k).2.2 = 0
          · rw [lexF_tok hk hb hl hc]
            obtain ⟨b1, b2, b3⟩ := tokM_bd hk hc
            exact lexF_good s hs f _ _ (goodT_add h (tokM_good hs hk hc) b3 b1)
          · rw [lexF_bad hk hb hl hc]; exact ⟨0, hnil⟩
theorem lexM_good (s : ByteArray) : ∃ j, goodT (lexM s).1 j := by
  unfold lexM
  split
  · exact lexF_good s (by omega) _ _ _ ⟨fun t ht => (by cases ht), List.Pairwise.nil⟩
  · exact ⟨0, fun t ht => (by cases ht), List.Pairwise.nil⟩
theorem c_SignOf (t : MTok) : FCon Try.prog 34 [.ag t.enc] (fun r _ => r = .s (.string (if t.kind = 6 then t.s else noB))) := by
  by_cases h : t.kind = 6
  · have e1 : (t.kind != 6) = false := by simpa using h
    refine FCon.intro PM _ Try.func34 (by kernel_rfl) rfl _ Try.ntmps34 rfl [] (by decide +kernel) (by simp) (by simp) rfl (by first | rfl | simp only [go_sem]) ?_
    repeat' (first | with_reducible refine ACallQ_no (.s (.bool false)) ?_ | ((with_reducible first | refine AC_go ?_ | refine ACallQ_go ?_ | refine (?_ : aft _ _ _ _ _ _) | refine (?_ : aops _ _ _ _ _) | refine (?_ : aqsN _ _ _ _ _ _ _ _)); simp only [go_sem, ↓reduceIte, Nat.reduceAdd, Nat.reduceSub, Nat.reduceMul, Nat.reduceMod, Nat.reduceDiv, Nat.reduceEqDiff, Nat.reduceBNe, Nat.reduceBEq, Nat.reduceLeDiff, Nat.reduceLT, reduceCtorEq, MTok.enc_eq, e1, h]; fail_if_success (with_reducible refine (?_ : False))) | with_reducible refine And.intro ?_ ?_ | with_reducible refine CallQ_no ?_ | with_reducible exact False.elim | ((with_reducible refine (?_ : _ → AC _ _ _ _ _ _)); (intro hb; (try simp only [decide_eq_true_eq, decide_eq_false_iff_not, Bool.and_eq_true, Bool.or_eq_true, Bool.and_eq_false_iff, Bool.or_eq_false_iff, Bool.not_eq_true', Bool.not_eq_false', beq_iff_eq, beq_eq_false_iff_ne, bne_iff_ne, bne_eq_false_iff_eq, gt_iff_lt, ge_iff_le, Int.not_lt, Int.not_le] at hb); (try (exfalso; omega)))) | omega | simp only [go_sem, ↓reduceIte, Nat.reduceAdd, Nat.reduceSub, Nat.reduceMul, Nat.reduceMod, Nat.reduceDiv, Nat.reduceEqDiff, Nat.reduceBNe, Nat.reduceBEq, Nat.reduceLeDiff, Nat.reduceLT, reduceCtorEq, MTok.enc_eq, e1, h] | (intro hg; simp only [Bool.and_eq_true, Bool.or_eq_true, Bool.not_eq_true', Bool.and_eq_false_iff, Bool.or_eq_false_iff, Bool.not_eq_false', decide_eq_true_eq, decide_eq_false_iff_not, Bool.not_not, gt_iff_lt, ge_iff_le, Int.not_lt, Int.not_le] at hg ⊢; first | omega | (simp_all; done) | fail))
  · have e1 : (t.kind != 6) = true := by simpa using h
    refine FCon.intro PM _ Try.func34 (by kernel_rfl) rfl _ Try.ntmps34 rfl [] (by decide +kernel) (by simp) (by simp) rfl (by first | rfl | simp only [go_sem]) ?_
    repeat' (first | with_reducible refine ACallQ_no (.s (.bool false)) ?_ | ((with_reducible first | refine AC_go ?_ | refine ACallQ_go ?_ | refine (?_ : aft _ _ _ _ _ _) | refine (?_ : aops _ _ _ _ _) | refine (?_ : aqsN _ _ _ _ _ _ _ _)); simp only [go_sem, ↓reduceIte, Nat.reduceAdd, Nat.reduceSub, Nat.reduceMul, Nat.reduceMod, Nat.reduceDiv, Nat.reduceEqDiff, Nat.reduceBNe, Nat.reduceBEq, Nat.reduceLeDiff, Nat.reduceLT, reduceCtorEq, MTok.enc_eq, e1, h, noB_eq]; fail_if_success (with_reducible refine (?_ : False))) | with_reducible refine And.intro ?_ ?_ | with_reducible refine CallQ_no ?_ | with_reducible exact False.elim | ((with_reducible refine (?_ : _ → AC _ _ _ _ _ _)); (intro hb; (try simp only [decide_eq_true_eq, decide_eq_false_iff_not, Bool.and_eq_true, Bool.or_eq_true, Bool.and_eq_false_iff, Bool.or_eq_false_iff, Bool.not_eq_true', Bool.not_eq_false', beq_iff_eq, beq_eq_false_iff_ne, bne_iff_ne, bne_eq_false_iff_eq, gt_iff_lt, ge_iff_le, Int.not_lt, Int.not_le] at hb); (try (exfalso; omega)))) | omega | simp only [go_sem, ↓reduceIte, Nat.reduceAdd, Nat.reduceSub, Nat.reduceMul, Nat.reduceMod, Nat.reduceDiv, Nat.reduceEqDiff, Nat.reduceBNe, Nat.reduceBEq, Nat.reduceLeDiff, Nat.reduceLT, reduceCtorEq, MTok.enc_eq, e1, h, noB_eq] | (intro hg; simp only [Bool.and_eq_true, Bool.or_eq_true, Bool.not_eq_true', Bool.and_eq_false_iff, Bool.or_eq_false_iff, Bool.not_eq_false', decide_eq_true_eq, decide_eq_false_iff_not, Bool.not_not, gt_iff_lt, ge_iff_le, Int.not_lt, Int.not_le] at hg ⊢; first | omega | (simp_all; done) | fail))
set_option maxRecDepth 100000 in
set_option maxHeartbeats 4000000 in
theorem c_FnTokens (zs : List UInt8) : FCon Try.prog 6 [.sl 1 (zs.map u8E)] (fun r _ => r = .s (.bool true)) := by
  by_cases hz : zs.length ≤ 1048576
  · have hb : decide ((zs.length : Int) > 1048576) = false := by simp; omega
    refine FCon.intro PM _ Try.func6 (by kernel_rfl) rfl _ Try.ntmps6 rfl [(11, 47, [], [], [0, 1, 2, 3, 4, 5, 6, 7, 8, 9, 10, 11, 12, 13, 14, 15, 16, 17, 18, 19, 20, 21, 22, 23, 24, 25, 26, 27, 28, 29, 30, 31, 32, 33, 34, 35, 36, 37, 38, 39, 40, 41, 42, 43, 44, 45, 46])] (by decide +kernel) (by simp) (by simp) rfl (by first | rfl | simp only [go_sem]) ?_
    repeat' (first | with_reducible refine ACallQ_no (.s (.bool false)) ?_ | ((with_reducible first | refine AC_go ?_ | refine ACallQ_go ?_ | refine (?_ : aft _ _ _ _ _ _) | refine (?_ : aops _ _ _ _ _) | refine (?_ : aqsN _ _ _ _ _ _ _ _)); simp only [go_sem, ↓reduceIte, Nat.reduceAdd, Nat.reduceSub, Nat.reduceMul, Nat.reduceMod, Nat.reduceDiv, Nat.reduceEqDiff, Nat.reduceBNe, Nat.reduceBEq, Nat.reduceLeDiff, Nat.reduceLT, reduceCtorEq, hb, lexD_eq]; fail_if_success (with_reducible refine (?_ : False))) | with_reducible refine And.intro ?_ ?_ | (refine CallG_mk (c_DrawLex zs) ?_; rintro _ _ ⟨s, rfl, hs⟩) | (refine CallQ_mk (c_DrawLex zs) ?_) | (refine CallG_mk (FCon.noout (c_implLex s (by omega))) ?_; rintro _ _ ⟨rfl, rfl⟩) | (refine CallQ_mk (c_implLex s (by omega)) ?_) | (refine CallG_mk (FCon.noout (c_specLex s (by omega))) ?_; rintro _ _ ⟨rfl, rfl⟩) | (refine CallQ_mk (c_specLex s (by omega)) ?_) | with_reducible refine CallQ_no ?_ | with_reducible exact False.elim | ((with_reducible refine (?_ : _ → AC _ _ _ _ _ _)); (intro hb; (try simp only [decide_eq_true_eq, decide_eq_false_iff_not, Bool.and_eq_true, Bool.or_eq_true, Bool.and_eq_false_iff, Bool.or_eq_false_iff, Bool.not_eq_true', Bool.not_eq_false', beq_iff_eq, beq_eq_false_iff_ne, bne_iff_ne, bne_eq_false_iff_eq, gt_iff_lt, ge_iff_le, Int.not_lt, Int.not_le] at hb); (try (exfalso; omega)))) | omega | simp only [go_sem, ↓reduceIte, Nat.reduceAdd, Nat.reduceSub, Nat.reduceMul, Nat.reduceMod, Nat.reduceDiv, Nat.reduceEqDiff, Nat.reduceBNe, Nat.reduceBEq, Nat.reduceLeDiff, Nat.reduceLT, reduceCtorEq, hb, lexD_eq] | (intro hg; simp only [Bool.and_eq_true, Bool.or_eq_true, Bool.not_eq_true', Bool.and_eq_false_iff, Bool.or_eq_false_iff, Bool.not_eq_false', decide_eq_true_eq, decide_eq_false_iff_not, Bool.not_not, gt_iff_lt, ge_iff_le, Int.not_lt, Int.not_le] at hg ⊢; first | omega | (simp_all; done) | fail))
    obtain ⟨hi, hg, hp⟩ := lexM_good s
    have hn := lexM_len s
    generalize (lexM s).1 = ts at *
    refine AC_loop (fun n σ => ∃ k : Nat, k ≤ ts.length ∧ n = ts.length - k ∧ σ.t 4 = .bs 1019 4 ts.length ∧ σ.b 1019 = some (.arr 56 4 (ts.map MTok.own)) ∧ σ.t 44 = .bs 1019 4 ts.length ∧ σ.t 45 = .s (.int .i64 ts.length) ∧ σ.t 46 = .s (.int .i64 k)) ts.length ⟨0, by omega, by omega, ?_⟩ ?_
    · simp only [go_sem, ↓reduceIte, Nat.reduceAdd, Nat.reduceSub, Nat.reduceMul, Nat.reduceMod, Nat.reduceDiv, Nat.reduceEqDiff, Nat.reduceBNe, Nat.reduceBEq, Nat.reduceLeDiff, Nat.reduceLT, reduceCtorEq, Int.natCast_zero]
      all_goals trace_state
    · rintro n σ ⟨k, hk, rfl, h4, hb4, h44, h45, h46⟩ K' hK
      by_cases hlt : k < ts.length
      · have hx := getD_map MTok.own ts k hlt
        have he := MTok.own_eq ts[k]
        obtain ⟨g3, g4, gs⟩ := (hg _ (List.getElem_mem hlt)).1
        have hs3 : ts[k].s.size ≤ maxLen := by unfold maxLen; omega
        have hprev : k = 0 ∨ ∃ j, ∃ hj : j < ts.length, k = j + 1 ∧ decide (ts[j].at_ ≥ ts[k].at_) = false := by
          rcases k with _ | j
          · exact .inl rfl
          · refine .inr ⟨j, by omega, rfl, ?_⟩
            have := List.pairwise_iff_getElem.1 hp j (j + 1) (by omega) hlt (by omega)
            simp; omega
        have hkind : ((ts[k].kind == 3) = true ∧ nameM ts[k].s = true ∧ (ts[k].kind == 4) = false ∧ (ts[k].kind == 6) = false) ∨ ((ts[k].kind == 3) = false ∧ True ∧ (ts[k].kind == 4) = true ∧ (ts[k].kind == 6) = false ∧ conM ts[k].s.data.toList = true) ∨ ((ts[k].kind == 3) = false ∧ True ∧ (ts[k].kind == 4) = false ∧ (ts[k].kind == 6) = true ∧ ts[k].kind = 6) ∨ ((ts[k].kind == 3) = false ∧ True ∧ (ts[k].kind == 4) = false ∧ (ts[k].kind == 6) = false) := by
          by_cases q3 : ts[k].kind = 3
          · exact .inl ⟨by simp [q3], g3 q3, by simp [q3], by simp [q3]⟩
          · by_cases q4 : ts[k].kind = 4
            · exact .inr (.inl ⟨by simp [q4], trivial, by simp [q4], by simp [q4], g4 q4⟩)
            · by_cases q6 : ts[k].kind = 6
              · exact .inr (.inr (.inl ⟨by simp [q6], trivial, by simp [q6], by simp [q6], q6⟩))
              · exact .inr (.inr (.inr ⟨by simpa using q3, trivial, by simpa using q4, by simpa using q6⟩))
        have hso := c_SignOf ts[k]
        simp only [MTok.enc_eq] at hso
        have hkk : ts[k].kind = 6 → FCon Try.prog 34 [.ag [.s (.int .i64 ts[k].kind), .s (.int .i64 ts[k].n), .s (.string ts[k].s), .s (.int .i64 ts[k].at_)]] (fun r _ => r = .s (.string ts[k].s)) := fun q => by rw [if_pos q] at hso; exact hso
        rcases hprev with rfl | ⟨j, hj, rfl, hat⟩
        · have i01 : ((0 : Int) - 1).toNat = 0 := rfl
          rcases hkind with ⟨k3, n3, k4, k6⟩ | ⟨k3, n3, k4, k6, n4⟩ | ⟨k3, n3, k4, k6, n6⟩ | ⟨k3, n3, k4, k6⟩
          · repeat' (first | with_reducible refine ACallQ_no (.s (.bool false)) ?_ | ((with_reducible first | refine AC_go ?_ | refine ACallQ_go ?_ | refine (?_ : aft _ _ _ _ _ _) | refine (?_ : aops _ _ _ _ _) | refine (?_ : aqsN _ _ _ _ _ _ _ _)); simp only [go_sem, ↓reduceIte, Nat.reduceAdd, Nat.reduceSub, Nat.reduceMul, Nat.reduceMod, Nat.reduceDiv, Nat.reduceEqDiff, Nat.reduceBNe, Nat.reduceBEq, Nat.reduceLeDiff, Nat.reduceLT, reduceCtorEq, h4, hb4, h44, h45, h46, hx, he, Int.natCast_zero, int0, i01, k3, n3, k4, k6]; fail_if_success (with_reducible refine (?_ : False))) | with_reducible refine And.intro ?_ ?_ | (refine CallG_mk (FCon.noout (c_implNameOk _ hs3)) ?_; rintro _ _ ⟨rfl, rfl⟩) | (refine CallQ_mk (c_implNameOk _ hs3) ?_) | with_reducible refine CallQ_no ?_ | with_reducible exact False.elim | ((with_reducible refine (?_ : _ → AC _ _ _ _ _ _)); (intro hb; (try simp only [decide_eq_true_eq, decide_eq_false_iff_not, Bool.and_eq_true, Bool.or_eq_true, Bool.and_eq_false_iff, Bool.or_eq_false_iff, Bool.not_eq_true', Bool.not_eq_false', beq_iff_eq, beq_eq_false_iff_ne, bne_iff_ne, bne_eq_false_iff_eq, gt_iff_lt, ge_iff_le, Int.not_lt, Int.not_le] at hb); (try (exfalso; omega)))) | omega | simp only [go_sem, ↓reduceIte, Nat.reduceAdd, Nat.reduceSub, Nat.reduceMul, Nat.reduceMod, Nat.reduceDiv, Nat.reduceEqDiff, Nat.reduceBNe, Nat.reduceBEq, Nat.reduceLeDiff, Nat.reduceLT, reduceCtorEq, h4, hb4, h44, h45, h46, hx, he, Int.natCast_zero, int0, i01, k3, n3, k4, k6] | (intro hg; simp only [Bool.and_eq_true, Bool.or_eq_true, Bool.not_eq_true', Bool.and_eq_false_iff, Bool.or_eq_false_iff, Bool.not_eq_false', decide_eq_true_eq, decide_eq_false_iff_not, Bool.not_not, gt_iff_lt, ge_iff_le, Int.not_lt, Int.not_le] at hg ⊢; first | omega | (simp_all; done) | fail))
            refine hK (ts.length - (0 + 1)) _ (by omega) ⟨0 + 1, by omega, rfl, ?_⟩
            simp only [go_sem, ↓reduceIte, Nat.reduceAdd, Nat.reduceSub, Nat.reduceMul, Nat.reduceMod, Nat.reduceDiv, Nat.reduceEqDiff, Nat.reduceBNe, Nat.reduceBEq, Nat.reduceLeDiff, Nat.reduceLT, reduceCtorEq, h4, hb4, h44, h45, h46, Int.natCast_succ, Int.natCast_zero]
          · repeat' (first | with_reducible refine ACallQ_no (.s (.bool false)) ?_ | ((with_reducible first | refine AC_go ?_ | refine ACallQ_go ?_ | refine (?_ : aft _ _ _ _ _ _) | refine (?_ : aops _ _ _ _ _) | refine (?_ : aqsN _ _ _ _ _ _ _ _)); simp only [go_sem, ↓reduceIte, Nat.reduceAdd, Nat.reduceSub, Nat.reduceMul, Nat.reduceMod, Nat.reduceDiv, Nat.reduceEqDiff, Nat.reduceBNe, Nat.reduceBEq, Nat.reduceLeDiff, Nat.reduceLT, reduceCtorEq, h4, hb4, h44, h45, h46, hx, he, Int.natCast_zero, int0, i01, k3, n4, k4, k6]; fail_if_success (with_reducible refine (?_ : False))) | with_reducible refine And.intro ?_ ?_ | (refine CallG_mk (FCon.noout (c_implConOk _ hs3)) ?_; rintro _ _ ⟨rfl, rfl⟩) | (refine CallQ_mk (c_implConOk _ hs3) ?_) | with_reducible refine CallQ_no ?_ | with_reducible exact False.elim | ((with_reducible refine (?_ : _ → AC _ _ _ _ _ _)); (intro hb; (try simp only [decide_eq_true_eq, decide_eq_false_iff_not, Bool.and_eq_true, Bool.or_eq_true, Bool.and_eq_false_iff, Bool.or_eq_false_iff, Bool.not_eq_true', Bool.not_eq_false', beq_iff_eq, beq_eq_false_iff_ne, bne_iff_ne, bne_eq_false_iff_eq, gt_iff_lt, ge_iff_le, Int.not_lt, Int.not_le] at hb); (try (exfalso; omega)))) | omega | simp only [go_sem, ↓reduceIte, Nat.reduceAdd, Nat.reduceSub, Nat.reduceMul, Nat.reduceMod, Nat.reduceDiv, Nat.reduceEqDiff, Nat.reduceBNe, Nat.reduceBEq, Nat.reduceLeDiff, Nat.reduceLT, reduceCtorEq, h4, hb4, h44, h45, h46, hx, he, Int.natCast_zero, int0, i01, k3, n4, k4, k6] | (intro hg; simp only [Bool.and_eq_true, Bool.or_eq_true, Bool.not_eq_true', Bool.and_eq_false_iff, Bool.or_eq_false_iff, Bool.not_eq_false', decide_eq_true_eq, decide_eq_false_iff_not, Bool.not_not, gt_iff_lt, ge_iff_le, Int.not_lt, Int.not_le] at hg ⊢; first | omega | (simp_all; done) | fail))
            refine hK (ts.length - (0 + 1)) _ (by omega) ⟨0 + 1, by omega, rfl, ?_⟩
            simp only [go_sem, ↓reduceIte, Nat.reduceAdd, Nat.reduceSub, Nat.reduceMul, Nat.reduceMod, Nat.reduceDiv, Nat.reduceEqDiff, Nat.reduceBNe, Nat.reduceBEq, Nat.reduceLeDiff, Nat.reduceLT, reduceCtorEq, h4, hb4, h44, h45, h46, Int.natCast_succ, Int.natCast_zero]
          · repeat' (first | with_reducible refine ACallQ_no (.s (.bool false)) ?_ | ((with_reducible first | refine AC_go ?_ | refine ACallQ_go ?_ | refine (?_ : aft _ _ _ _ _ _) | refine (?_ : aops _ _ _ _ _) | refine (?_ : aqsN _ _ _ _ _ _ _ _)); simp only [go_sem, ↓reduceIte, Nat.reduceAdd, Nat.reduceSub, Nat.reduceMul, Nat.reduceMod, Nat.reduceDiv, Nat.reduceEqDiff, Nat.reduceBNe, Nat.reduceBEq, Nat.reduceLeDiff, Nat.reduceLT, reduceCtorEq, h4, hb4, h44, h45, h46, hx, he, Int.natCast_zero, int0, i01, k3, k4, k6]; fail_if_success (with_reducible refine (?_ : False))) | with_reducible refine And.intro ?_ ?_ | (refine CallG_mk (FCon.noout (hkk n6)) ?_; rintro _ _ ⟨rfl, rfl⟩) | (refine CallQ_mk (hkk n6) ?_) | with_reducible refine CallQ_no ?_ | with_reducible exact False.elim | ((with_reducible refine (?_ : _ → AC _ _ _ _ _ _)); (intro hb; (try simp only [decide_eq_true_eq, decide_eq_false_iff_not, Bool.and_eq_true, Bool.or_eq_true, Bool.and_eq_false_iff, Bool.or_eq_false_iff, Bool.not_eq_true', Bool.not_eq_false', beq_iff_eq, beq_eq_false_iff_ne, bne_iff_ne, bne_eq_false_iff_eq, gt_iff_lt, ge_iff_le, Int.not_lt, Int.not_le] at hb); (try (exfalso; omega)))) | omega | simp only [go_sem, ↓reduceIte, Nat.reduceAdd, Nat.reduceSub, Nat.reduceMul, Nat.reduceMod, Nat.reduceDiv, Nat.reduceEqDiff, Nat.reduceBNe, Nat.reduceBEq, Nat.reduceLeDiff, Nat.reduceLT, reduceCtorEq, h4, hb4, h44, h45, h46, hx, he, Int.natCast_zero, int0, i01, k3, k4, k6] | (intro hg; simp only [Bool.and_eq_true, Bool.or_eq_true, Bool.not_eq_true', Bool.and_eq_false_iff, Bool.or_eq_false_iff, Bool.not_eq_false', decide_eq_true_eq, decide_eq_false_iff_not, Bool.not_not, gt_iff_lt, ge_iff_le, Int.not_lt, Int.not_le] at hg ⊢; first | omega | (simp_all; done) | fail))
            refine hK (ts.length - (0 + 1)) _ (by omega) ⟨0 + 1, by omega, rfl, ?_⟩
            simp only [go_sem, ↓reduceIte, Nat.reduceAdd, Nat.reduceSub, Nat.reduceMul, Nat.reduceMod, Nat.reduceDiv, Nat.reduceEqDiff, Nat.reduceBNe, Nat.reduceBEq, Nat.reduceLeDiff, Nat.reduceLT, reduceCtorEq, h4, hb4, h44, h45, h46, Int.natCast_succ, Int.natCast_zero]
          · repeat' (first | with_reducible refine ACallQ_no (.s (.bool false)) ?_ | ((with_reducible first | refine AC_go ?_ | refine ACallQ_go ?_ | refine (?_ : aft _ _ _ _ _ _) | refine (?_ : aops _ _ _ _ _) | refine (?_ : aqsN _ _ _ _ _ _ _ _)); simp only [go_sem, ↓reduceIte, Nat.reduceAdd, Nat.reduceSub, Nat.reduceMul, Nat.reduceMod, Nat.reduceDiv, Nat.reduceEqDiff, Nat.reduceBNe, Nat.reduceBEq, Nat.reduceLeDiff, Nat.reduceLT, reduceCtorEq, h4, hb4, h44, h45, h46, hx, he, Int.natCast_zero, int0, i01, k3, k4, k6]; fail_if_success (with_reducible refine (?_ : False))) | with_reducible refine And.intro ?_ ?_ | (refine CallG_mk (FCon.noout (c_implNameOk _ hs3)) ?_; rintro _ _ ⟨rfl, rfl⟩) | (refine CallQ_mk (c_implNameOk _ hs3) ?_) | with_reducible refine CallQ_no ?_ | with_reducible exact False.elim | ((with_reducible refine (?_ : _ → AC _ _ _ _ _ _)); (intro hb; (try simp only [decide_eq_true_eq, decide_eq_false_iff_not, Bool.and_eq_true, Bool.or_eq_true, Bool.and_eq_false_iff, Bool.or_eq_false_iff, Bool.not_eq_true', Bool.not_eq_false', beq_iff_eq, beq_eq_false_iff_ne, bne_iff_ne, bne_eq_false_iff_eq, gt_iff_lt, ge_iff_le, Int.not_lt, Int.not_le] at hb); (try (exfalso; omega)))) | omega | simp only [go_sem, ↓reduceIte, Nat.reduceAdd, Nat.reduceSub, Nat.reduceMul, Nat.reduceMod, Nat.reduceDiv, Nat.reduceEqDiff, Nat.reduceBNe, Nat.reduceBEq, Nat.reduceLeDiff, Nat.reduceLT, reduceCtorEq, h4, hb4, h44, h45, h46, hx, he, Int.natCast_zero, int0, i01, k3, k4, k6] | (intro hg; simp only [Bool.and_eq_true, Bool.or_eq_true, Bool.not_eq_true', Bool.and_eq_false_iff, Bool.or_eq_false_iff, Bool.not_eq_false', decide_eq_true_eq, decide_eq_false_iff_not, Bool.not_not, gt_iff_lt, ge_iff_le, Int.not_lt, Int.not_le] at hg ⊢; first | omega | (simp_all; done) | fail))
            refine hK (ts.length - (0 + 1)) _ (by omega) ⟨0 + 1, by omega, rfl, ?_⟩
            simp only [go_sem, ↓reduceIte, Nat.reduceAdd, Nat.reduceSub, Nat.reduceMul, Nat.reduceMod, Nat.reduceDiv, Nat.reduceEqDiff, Nat.reduceBNe, Nat.reduceBEq, Nat.reduceLeDiff, Nat.reduceLT, reduceCtorEq, h4, hb4, h44, h45, h46, Int.natCast_succ, Int.natCast_zero]
        · have hx' := getD_map MTok.own ts j hj
          have he' := MTok.own_eq ts[j]
          have ej : ((j + 1 : Nat) : Int) - 1 = (j : Int) := by omega
          have ep : decide (((j + 1 : Nat) : Int) > 0) = true := by simp
          rcases hkind with ⟨k3, n3, k4, k6⟩ | ⟨k3, n3, k4, k6, n4⟩ | ⟨k3, n3, k4, k6, n6⟩ | ⟨k3, n3, k4, k6⟩
          · repeat' (first | with_reducible refine ACallQ_no (.s (.bool false)) ?_ | ((with_reducible first | refine AC_go ?_ | refine ACallQ_go ?_ | refine (?_ : aft _ _ _ _ _ _) | refine (?_ : aops _ _ _ _ _) | refine (?_ : aqsN _ _ _ _ _ _ _ _)); simp only [go_sem, ↓reduceIte, Nat.reduceAdd, Nat.reduceSub, Nat.reduceMul, Nat.reduceMod, Nat.reduceDiv, Nat.reduceEqDiff, Nat.reduceBNe, Nat.reduceBEq, Nat.reduceLeDiff, Nat.reduceLT, reduceCtorEq, h4, hb4, h44, h45, h46, hx, he, hx', he', ej, ep, hat, k3, n3, k4, k6]; fail_if_success (with_reducible refine (?_ : False))) | with_reducible refine And.intro ?_ ?_ | (refine CallG_mk (FCon.noout (c_implNameOk _ hs3)) ?_; rintro _ _ ⟨rfl, rfl⟩) | (refine CallQ_mk (c_implNameOk _ hs3) ?_) | with_reducible refine CallQ_no ?_ | with_reducible exact False.elim | ((with_reducible refine (?_ : _ → AC _ _ _ _ _ _)); (intro hb; (try simp only [decide_eq_true_eq, decide_eq_false_iff_not, Bool.and_eq_true, Bool.or_eq_true, Bool.and_eq_false_iff, Bool.or_eq_false_iff, Bool.not_eq_true', Bool.not_eq_false', beq_iff_eq, beq_eq_false_iff_ne, bne_iff_ne, bne_eq_false_iff_eq, gt_iff_lt, ge_iff_le, Int.not_lt, Int.not_le] at hb); (try (exfalso; omega)))) | omega | simp only [go_sem, ↓reduceIte, Nat.reduceAdd, Nat.reduceSub, Nat.reduceMul, Nat.reduceMod, Nat.reduceDiv, Nat.reduceEqDiff, Nat.reduceBNe, Nat.reduceBEq, Nat.reduceLeDiff, Nat.reduceLT, reduceCtorEq, h4, hb4, h44, h45, h46, hx, he, hx', he', ej, ep, hat, k3, n3, k4, k6] | (intro hg; simp only [Bool.and_eq_true, Bool.or_eq_true, Bool.not_eq_true', Bool.and_eq_false_iff, Bool.or_eq_false_iff, Bool.not_eq_false', decide_eq_true_eq, decide_eq_false_iff_not, Bool.not_not, gt_iff_lt, ge_iff_le, Int.not_lt, Int.not_le] at hg ⊢; first | omega | (simp_all; done) | fail))
            refine hK (ts.length - (j + 1 + 1)) _ (by omega) ⟨j + 1 + 1, by omega, rfl, ?_⟩
            simp only [go_sem, ↓reduceIte, Nat.reduceAdd, Nat.reduceSub, Nat.reduceMul, Nat.reduceMod, Nat.reduceDiv, Nat.reduceEqDiff, Nat.reduceBNe, Nat.reduceBEq, Nat.reduceLeDiff, Nat.reduceLT, reduceCtorEq, h4, hb4, h44, h45, h46, cast1 (j + 1)]
          · repeat' (first | with_reducible refine ACallQ_no (.s (.bool false)) ?_ | ((with_reducible first | refine AC_go ?_ | refine ACallQ_go ?_ | refine (?_ : aft _ _ _ _ _ _) | refine (?_ : aops _ _ _ _ _) | refine (?_ : aqsN _ _ _ _ _ _ _ _)); simp only [go_sem, ↓reduceIte, Nat.reduceAdd, Nat.reduceSub, Nat.reduceMul, Nat.reduceMod, Nat.reduceDiv, Nat.reduceEqDiff, Nat.reduceBNe, Nat.reduceBEq, Nat.reduceLeDiff, Nat.reduceLT, reduceCtorEq, h4, hb4, h44, h45, h46, hx, he, hx', he', ej, ep, hat, k3, n4, k4, k6]; fail_if_success (with_reducible refine (?_ : False))) | with_reducible refine And.intro ?_ ?_ | (refine CallG_mk (FCon.noout (c_implConOk _ hs3)) ?_; rintro _ _ ⟨rfl, rfl⟩) | (refine CallQ_mk (c_implConOk _ hs3) ?_) | with_reducible refine CallQ_no ?_ | with_reducible exact False.elim | ((with_reducible refine (?_ : _ → AC _ _ _ _ _ _)); (intro hb; (try simp only [decide_eq_true_eq, decide_eq_false_iff_not, Bool.and_eq_true, Bool.or_eq_true, Bool.and_eq_false_iff, Bool.or_eq_false_iff, Bool.not_eq_true', Bool.not_eq_false', beq_iff_eq, beq_eq_false_iff_ne, bne_iff_ne, bne_eq_false_iff_eq, gt_iff_lt, ge_iff_le, Int.not_lt, Int.not_le] at hb); (try (exfalso; omega)))) | omega | simp only [go_sem, ↓reduceIte, Nat.reduceAdd, Nat.reduceSub, Nat.reduceMul, Nat.reduceMod, Nat.reduceDiv, Nat.reduceEqDiff, Nat.reduceBNe, Nat.reduceBEq, Nat.reduceLeDiff, Nat.reduceLT, reduceCtorEq, h4, hb4, h44, h45, h46, hx, he, hx', he', ej, ep, hat, k3, n4, k4, k6] | (intro hg; simp only [Bool.and_eq_true, Bool.or_eq_true, Bool.not_eq_true', Bool.and_eq_false_iff, Bool.or_eq_false_iff, Bool.not_eq_false', decide_eq_true_eq, decide_eq_false_iff_not, Bool.not_not, gt_iff_lt, ge_iff_le, Int.not_lt, Int.not_le] at hg ⊢; first | omega | (simp_all; done) | fail))
            refine hK (ts.length - (j + 1 + 1)) _ (by omega) ⟨j + 1 + 1, by omega, rfl, ?_⟩
            simp only [go_sem, ↓reduceIte, Nat.reduceAdd, Nat.reduceSub, Nat.reduceMul, Nat.reduceMod, Nat.reduceDiv, Nat.reduceEqDiff, Nat.reduceBNe, Nat.reduceBEq, Nat.reduceLeDiff, Nat.reduceLT, reduceCtorEq, h4, hb4, h44, h45, h46, cast1 (j + 1)]
          · repeat' (first | with_reducible refine ACallQ_no (.s (.bool false)) ?_ | ((with_reducible first | refine AC_go ?_ | refine ACallQ_go ?_ | refine (?_ : aft _ _ _ _ _ _) | refine (?_ : aops _ _ _ _ _) | refine (?_ : aqsN _ _ _ _ _ _ _ _)); simp only [go_sem, ↓reduceIte, Nat.reduceAdd, Nat.reduceSub, Nat.reduceMul, Nat.reduceMod, Nat.reduceDiv, Nat.reduceEqDiff, Nat.reduceBNe, Nat.reduceBEq, Nat.reduceLeDiff, Nat.reduceLT, reduceCtorEq, h4, hb4, h44, h45, h46, hx, he, hx', he', ej, ep, hat, k3, k4, k6]; fail_if_success (with_reducible refine (?_ : False))) | with_reducible refine And.intro ?_ ?_ | (refine CallG_mk (FCon.noout (hkk n6)) ?_; rintro _ _ ⟨rfl, rfl⟩) | (refine CallQ_mk (hkk n6) ?_) | with_reducible refine CallQ_no ?_ | with_reducible exact False.elim | ((with_reducible refine (?_ : _ → AC _ _ _ _ _ _)); (intro hb; (try simp only [decide_eq_true_eq, decide_eq_false_iff_not, Bool.and_eq_true, Bool.or_eq_true, Bool.and_eq_false_iff, Bool.or_eq_false_iff, Bool.not_eq_true', Bool.not_eq_false', beq_iff_eq, beq_eq_false_iff_ne, bne_iff_ne, bne_eq_false_iff_eq, gt_iff_lt, ge_iff_le, Int.not_lt, Int.not_le] at hb); (try (exfalso; omega)))) | omega | simp only [go_sem, ↓reduceIte, Nat.reduceAdd, Nat.reduceSub, Nat.reduceMul, Nat.reduceMod, Nat.reduceDiv, Nat.reduceEqDiff, Nat.reduceBNe, Nat.reduceBEq, Nat.reduceLeDiff, Nat.reduceLT, reduceCtorEq, h4, hb4, h44, h45, h46, hx, he, hx', he', ej, ep, hat, k3, k4, k6] | (intro hg; simp only [Bool.and_eq_true, Bool.or_eq_true, Bool.not_eq_true', Bool.and_eq_false_iff, Bool.or_eq_false_iff, Bool.not_eq_false', decide_eq_true_eq, decide_eq_false_iff_not, Bool.not_not, gt_iff_lt, ge_iff_le, Int.not_lt, Int.not_le] at hg ⊢; first | omega | (simp_all; done) | fail))
            refine hK (ts.length - (j + 1 + 1)) _ (by omega) ⟨j + 1 + 1, by omega, rfl, ?_⟩
            simp only [go_sem, ↓reduceIte, Nat.reduceAdd, Nat.reduceSub, Nat.reduceMul, Nat.reduceMod, Nat.reduceDiv, Nat.reduceEqDiff, Nat.reduceBNe, Nat.reduceBEq, Nat.reduceLeDiff, Nat.reduceLT, reduceCtorEq, h4, hb4, h44, h45, h46, cast1 (j + 1)]
          · repeat' (first | with_reducible refine ACallQ_no (.s (.bool false)) ?_ | ((with_reducible first | refine AC_go ?_ | refine ACallQ_go ?_ | refine (?_ : aft _ _ _ _ _ _) | refine (?_ : aops _ _ _ _ _) | refine (?_ : aqsN _ _ _ _ _ _ _ _)); simp only [go_sem, ↓reduceIte, Nat.reduceAdd, Nat.reduceSub, Nat.reduceMul, Nat.reduceMod, Nat.reduceDiv, Nat.reduceEqDiff, Nat.reduceBNe, Nat.reduceBEq, Nat.reduceLeDiff, Nat.reduceLT, reduceCtorEq, h4, hb4, h44, h45, h46, hx, he, hx', he', ej, ep, hat, k3, k4, k6]; fail_if_success (with_reducible refine (?_ : False))) | with_reducible refine And.intro ?_ ?_ | (refine CallG_mk (FCon.noout (c_implNameOk _ hs3)) ?_; rintro _ _ ⟨rfl, rfl⟩) | (refine CallQ_mk (c_implNameOk _ hs3) ?_) | with_reducible refine CallQ_no ?_ | with_reducible exact False.elim | ((with_reducible refine (?_ : _ → AC _ _ _ _ _ _)); (intro hb; (try simp only [decide_eq_true_eq, decide_eq_false_iff_not, Bool.and_eq_true, Bool.or_eq_true, Bool.and_eq_false_iff, Bool.or_eq_false_iff, Bool.not_eq_true', Bool.not_eq_false', beq_iff_eq, beq_eq_false_iff_ne, bne_iff_ne, bne_eq_false_iff_eq, gt_iff_lt, ge_iff_le, Int.not_lt, Int.not_le] at hb); (try (exfalso; omega)))) | omega | simp only [go_sem, ↓reduceIte, Nat.reduceAdd, Nat.reduceSub, Nat.reduceMul, Nat.reduceMod, Nat.reduceDiv, Nat.reduceEqDiff, Nat.reduceBNe, Nat.reduceBEq, Nat.reduceLeDiff, Nat.reduceLT, reduceCtorEq, h4, hb4, h44, h45, h46, hx, he, hx', he', ej, ep, hat, k3, k4, k6] | (intro hg; simp only [Bool.and_eq_true, Bool.or_eq_true, Bool.not_eq_true', Bool.and_eq_false_iff, Bool.or_eq_false_iff, Bool.not_eq_false', decide_eq_true_eq, decide_eq_false_iff_not, Bool.not_not, gt_iff_lt, ge_iff_le, Int.not_lt, Int.not_le] at hg ⊢; first | omega | (simp_all; done) | fail))
            refine hK (ts.length - (j + 1 + 1)) _ (by omega) ⟨j + 1 + 1, by omega, rfl, ?_⟩
            simp only [go_sem, ↓reduceIte, Nat.reduceAdd, Nat.reduceSub, Nat.reduceMul, Nat.reduceMod, Nat.reduceDiv, Nat.reduceEqDiff, Nat.reduceBNe, Nat.reduceBEq, Nat.reduceLeDiff, Nat.reduceLT, reduceCtorEq, h4, hb4, h44, h45, h46, cast1 (j + 1)]
      · obtain rfl : k = ts.length := by omega
        repeat' (first | with_reducible refine ACallQ_no (.s (.bool false)) ?_ | ((with_reducible first | refine AC_go ?_ | refine ACallQ_go ?_ | refine (?_ : aft _ _ _ _ _ _) | refine (?_ : aops _ _ _ _ _) | refine (?_ : aqsN _ _ _ _ _ _ _ _)); simp only [go_sem, ↓reduceIte, Nat.reduceAdd, Nat.reduceSub, Nat.reduceMul, Nat.reduceMod, Nat.reduceDiv, Nat.reduceEqDiff, Nat.reduceBNe, Nat.reduceBEq, Nat.reduceLeDiff, Nat.reduceLT, reduceCtorEq, h4, hb4, h44, h45, h46]; fail_if_success (with_reducible refine (?_ : False))) | with_reducible refine And.intro ?_ ?_ | with_reducible refine CallQ_no ?_ | with_reducible exact False.elim | ((with_reducible refine (?_ : _ → AC _ _ _ _ _ _)); (intro hb; (try simp only [decide_eq_true_eq, decide_eq_false_iff_not, Bool.and_eq_true, Bool.or_eq_true, Bool.and_eq_false_iff, Bool.or_eq_false_iff, Bool.not_eq_true', Bool.not_eq_false', beq_iff_eq, beq_eq_false_iff_ne, bne_iff_ne, bne_eq_false_iff_eq, gt_iff_lt, ge_iff_le, Int.not_lt, Int.not_le] at hb); (try (exfalso; omega)))) | omega | simp only [go_sem, ↓reduceIte, Nat.reduceAdd, Nat.reduceSub, Nat.reduceMul, Nat.reduceMod, Nat.reduceDiv, Nat.reduceEqDiff, Nat.reduceBNe, Nat.reduceBEq, Nat.reduceLeDiff, Nat.reduceLT, reduceCtorEq, h4, hb4, h44, h45, h46] | (intro hg; simp only [Bool.and_eq_true, Bool.or_eq_true, Bool.not_eq_true', Bool.and_eq_false_iff, Bool.or_eq_false_iff, Bool.not_eq_false', decide_eq_true_eq, decide_eq_false_iff_not, Bool.not_not, gt_iff_lt, ge_iff_le, Int.not_lt, Int.not_le] at hg ⊢; first | omega | (simp_all; done) | fail))
  · have hb : decide ((zs.length : Int) > 1048576) = true := by simp; omega
    refine FCon.intro PM _ Try.func6 (by kernel_rfl) rfl _ Try.ntmps6 rfl [(11, 47, [], [], [0, 1, 2, 3, 4, 5, 6, 7, 8, 9, 10, 11, 12, 13, 14, 15, 16, 17, 18, 19, 20, 21, 22, 23, 24, 25, 26, 27, 28, 29, 30, 31, 32, 33, 34, 35, 36, 37, 38, 39, 40, 41, 42, 43, 44, 45, 46])] (by decide +kernel) (by simp) (by simp) rfl (by first | rfl | simp only [go_sem]) ?_
    repeat' (first | with_reducible refine ACallQ_no (.s (.bool false)) ?_ | ((with_reducible first | refine AC_go ?_ | refine ACallQ_go ?_ | refine (?_ : aft _ _ _ _ _ _) | refine (?_ : aops _ _ _ _ _) | refine (?_ : aqsN _ _ _ _ _ _ _ _)); simp only [go_sem, ↓reduceIte, Nat.reduceAdd, Nat.reduceSub, Nat.reduceMul, Nat.reduceMod, Nat.reduceDiv, Nat.reduceEqDiff, Nat.reduceBNe, Nat.reduceBEq, Nat.reduceLeDiff, Nat.reduceLT, reduceCtorEq, hb]; fail_if_success (with_reducible refine (?_ : False))) | with_reducible refine And.intro ?_ ?_ | with_reducible refine CallQ_no ?_ | with_reducible exact False.elim | ((with_reducible refine (?_ : _ → AC _ _ _ _ _ _)); (intro hb; (try simp only [decide_eq_true_eq, decide_eq_false_iff_not, Bool.and_eq_true, Bool.or_eq_true, Bool.and_eq_false_iff, Bool.or_eq_false_iff, Bool.not_eq_true', Bool.not_eq_false', beq_iff_eq, beq_eq_false_iff_ne, bne_iff_ne, bne_eq_false_iff_eq, gt_iff_lt, ge_iff_le, Int.not_lt, Int.not_le] at hb); (try (exfalso; omega)))) | omega | simp only [go_sem, ↓reduceIte, Nat.reduceAdd, Nat.reduceSub, Nat.reduceMul, Nat.reduceMod, Nat.reduceDiv, Nat.reduceEqDiff, Nat.reduceBNe, Nat.reduceBEq, Nat.reduceLeDiff, Nat.reduceLT, reduceCtorEq, hb] | (intro hg; simp only [Bool.and_eq_true, Bool.or_eq_true, Bool.not_eq_true', Bool.and_eq_false_iff, Bool.or_eq_false_iff, Bool.not_eq_false', decide_eq_true_eq, decide_eq_false_iff_not, Bool.not_not, gt_iff_lt, ge_iff_le, Int.not_lt, Int.not_le] at hg ⊢; first | omega | (simp_all; done) | fail))
end Go.Proofs.Ytngobmjdbjlkcaa
