import Derived.Test.YtngobmjdbjlkcaaHVars
import Derived.Test.YtngobmjdbjlkcaaVarsM
import Derived.Test.YtngobmjdbjlkcaaTxB
/- TyCanon and PrintTy of the program, over the second engine. -/
namespace Go.Proofs.Ytngobmjdbjlkcaa
set_option linter.unusedVariables false
set_option linter.unusedSimpArgs false
open Go.RowKit
theorem tyS_of2 {S : Nat → Prop} {up : Nat → Option Pos} {w : World} {v : Value} {xs : List TyI} (h : Rep S up w none (.sl 3 (xs.map TyI.enc)) v) (ho : ∀ x ∈ xs, x.ok) : TyS (hp w) v xs :=
  Rep.slOf (enc := TyI.enc) (k := 3) (R := tyR) (fun _ _ => rfl) (by decide) (fun r x hx hr => by
    obtain ⟨h1, h2⟩ := hr
    match r, h1 with
    | [a, b, c], _ =>
      have e0 := Rep.s_inv (h2 0 _ a rfl rfl)
      have e1 := Rep.s_inv (h2 1 _ b rfl rfl)
      have e2 := Rep.s_inv (h2 2 _ c rfl rfl)
      subst e0 e1 e2
      exact ⟨rfl, ho x hx⟩) h
theorem c_implPrintTy (xs : List TyI) (ho : ∀ x ∈ xs, x.ok) (hl : xs.length ≤ 1000000000) : FCon Try.prog 14 [.ag [.sl 3 (xs.map TyI.enc)]] (fun r _ => r = .s (.string (bs (printTyM xs)))) := by
  refine FCon.ofBelow (Rv := fun v => v = .string (bs (printTyM xs))) Try.func14 rfl rfl ?_ rfl ?_
  · rintro _ rfl; exact ⟨rfl, rfl⟩
  · intro w S up vs hl' hv
    obtain ⟨v, rfl, h'⟩ := one_arg (P := fun _ d u => RB S up w d u) hl' hv
    obtain ⟨u, rfl, hu⟩ := ag_one h'
    exact (impl_PrintTy w _ (Sub.self w) u xs (tyS_of2 hu ho) hl).mono fun e w' h => ⟨_, h.1, rfl, h.2⟩
set_option maxRecDepth 100000 in
set_option maxHeartbeats 1000000 in
theorem c_Clone_Ty (xs : List TyI) (hne : 0 < xs.length) (hl : xs.length ≤ 1000000000) : FCon Try.prog 91 [.sl 3 (xs.map TyI.enc)] (fun r _ => r = .osl 31 3 (xs.map TyI.own)) := by
  have he : (xs.map TyI.enc).isEmpty = false := by cases xs with | nil => simp at hne | cons _ _ => rfl
  refine FCon.intro PM _ Try.func91 (by kernel_rfl) rfl _ Try.ntmps91 rfl [] (by decide +kernel) (by simp) (by simp) rfl (by first | rfl | simp only [go_sem]) ?_
  repeat' (first | with_reducible refine ACallQ_no (.s (.bool false)) ?_ | ((with_reducible first | refine AC_go ?_ | refine ACallQ_go ?_ | refine (?_ : aft _ _ _ _ _ _) | refine (?_ : aops _ _ _ _ _) | refine (?_ : aqsN _ _ _ _ _ _ _ _)); simp only [go_sem, ↓reduceIte, Nat.reduceAdd, Nat.reduceSub, Nat.reduceMul, Nat.reduceMod, Nat.reduceDiv, Nat.reduceEqDiff, Nat.reduceBNe, Nat.reduceBEq, Nat.reduceLeDiff, Nat.reduceLT, reduceCtorEq, he]; fail_if_success (with_reducible refine (?_ : False))) | with_reducible refine And.intro ?_ ?_ | with_reducible refine CallQ_no ?_ | with_reducible exact False.elim | ((with_reducible refine (?_ : _ → AC _ _ _ _ _ _)); (intro hb; (try simp only [decide_eq_true_eq, decide_eq_false_iff_not, Bool.and_eq_true, Bool.or_eq_true, Bool.and_eq_false_iff, Bool.or_eq_false_iff, Bool.not_eq_true', Bool.not_eq_false', beq_iff_eq, beq_eq_false_iff_ne, bne_iff_ne, bne_eq_false_iff_eq, gt_iff_lt, ge_iff_le, Int.not_lt, Int.not_le] at hb); (try (exfalso; omega)))) | omega | simp only [go_sem, ↓reduceIte, Nat.reduceAdd, Nat.reduceSub, Nat.reduceMul, Nat.reduceMod, Nat.reduceDiv, Nat.reduceEqDiff, Nat.reduceBNe, Nat.reduceBEq, Nat.reduceLeDiff, Nat.reduceLT, reduceCtorEq, he] | (intro hg; simp only [Bool.and_eq_true, Bool.or_eq_true, Bool.not_eq_true', Bool.and_eq_false_iff, Bool.or_eq_false_iff, Bool.not_eq_false', decide_eq_true_eq, decide_eq_false_iff_not, Bool.not_not, gt_iff_lt, ge_iff_le, Int.not_lt, Int.not_le] at hg ⊢; first | omega | (simp_all; done) | fail))
  all_goals exact ⟨_, rfl⟩
theorem fidx_idxN : ∀ (l : List Int) (v : Int), v ∈ l → fidx (fun x => v == x) l = (idxN l v : Nat)
  | [], v, h => by cases h
  | y :: l, v, h => by
    by_cases e : y = v
    · subst e
      rw [fidx, if_pos (by simp), idxN, if_pos rfl]; rfl
    · have hm : v ∈ l := by
        rcases List.mem_cons.1 h with q | q
        · exact absurd q.symm e
        · exact q
      have ih := fidx_idxN l v hm
      have e' : ¬ (v == y) = true := by simp; exact fun q => e q.symm
      rw [fidx, if_neg e', ih, if_neg (by omega), idxN, if_neg e]; rfl
/-- the first k items renamed. -/
def mixC (xs : List TyI) (k : Nat) : List TyI := (canonM xs).take k ++ xs.drop k
theorem canonM_len' (xs : List TyI) : (canonM xs).length = xs.length := by simp [canonM]
theorem mixC_len (xs : List TyI) {k : Nat} (h : k ≤ xs.length) : (mixC xs k).length = xs.length := by
  unfold mixC; rw [List.length_append, List.length_take, List.length_drop, canonM_len']; omega
theorem mixC_zero (xs : List TyI) : mixC xs 0 = xs := by simp [mixC]
theorem mixC_all (xs : List TyI) : mixC xs xs.length = canonM xs := by
  unfold mixC; rw [List.drop_length, List.append_nil, ← canonM_len', List.take_length]
theorem mixC_at (xs : List TyI) {k : Nat} (h : k < xs.length) : (mixC xs k)[k]'(by rw [mixC_len xs (by omega)]; exact h) = xs[k] := by
  have h1 : ((canonM xs).take k).length = k := by rw [List.length_take, canonM_len']; omega
  have e : (mixC xs k)[k]? = some xs[k] := by
    unfold mixC
    rw [List.getElem?_append_right (by omega), h1, Nat.sub_self, List.getElem?_drop, Nat.add_zero, List.getElem?_eq_getElem h]
  exact (List.getElem?_eq_some_iff.1 e).2
theorem mixC_set (xs : List TyI) {k : Nat} (h : k < xs.length) : (mixC xs k).set k (canonI (varsM xs) xs[k]) = mixC xs (k + 1) := by
  have h1 : ((canonM xs).take k).length = k := by rw [List.length_take, canonM_len']; omega
  have h2 : (canonM xs)[k]'(by rw [canonM_len']; exact h) = canonI (varsM xs) xs[k] := by simp [canonM]
  unfold mixC
  rw [List.set_append_right _ _ (by omega), h1, Nat.sub_self, List.drop_eq_getElem_cons h, List.set_cons_zero, List.take_succ_eq_append_getElem (by rw [canonM_len']; exact h), h2]
  simp
theorem mixC_same (xs : List TyI) {k : Nat} (h : k < xs.length) (hb : varB xs[k] = false) : mixC xs (k + 1) = mixC xs k := by
  rw [← mixC_set xs h]
  have e : canonI (varsM xs) xs[k] = xs[k] := by unfold canonI; rw [if_neg (by rw [hb]; simp)]
  rw [e]
  have e2 : (mixC xs k).set k ((mixC xs k)[k]'(by rw [mixC_len xs (by omega)]; exact h)) = mixC xs k := List.set_getElem_self _
  rw [mixC_at xs h] at e2
  exact e2
set_option maxRecDepth 100000 in
set_option maxHeartbeats 1000000 in
theorem c_canon (xs : List TyI) (hne : 0 < xs.length) (hl : xs.length ≤ 1000000) : FCon Try.prog 100 [.sl 3 (xs.map TyI.enc)] (fun r _ => r = .ag [.osl 31 3 ((canonM xs).map TyI.own)]) := by
  have hvl := varsM_len' xs
  refine FCon.intro PM _ Try.func100 (by kernel_rfl) rfl _ Try.ntmps100 rfl [] (by decide +kernel) (by simp) (by simp) rfl (by first | rfl | simp only [go_sem]) ?_
  repeat' (first | with_reducible refine ACallQ_no (.s (.bool false)) ?_ | ((with_reducible first | refine AC_go ?_ | refine ACallQ_go ?_ | refine (?_ : aft _ _ _ _ _ _) | refine (?_ : aops _ _ _ _ _) | refine (?_ : aqsN _ _ _ _ _ _ _ _)); simp only [go_sem, ↓reduceIte, Nat.reduceAdd, Nat.reduceSub, Nat.reduceMul, Nat.reduceMod, Nat.reduceDiv, Nat.reduceEqDiff, Nat.reduceBNe, Nat.reduceBEq, Nat.reduceLeDiff, Nat.reduceLT, reduceCtorEq]; fail_if_success (with_reducible refine (?_ : False))) | with_reducible refine And.intro ?_ ?_ | (refine CallG_mk (FCon.noout (c_varsIn xs (by omega))) ?_; rintro _ _ ⟨rfl, rfl⟩) | (refine CallQ_mk (c_varsIn xs (by omega)) ?_) | (refine CallG_mk (FCon.noout (c_Clone_Ty xs hne (by omega))) ?_; rintro _ _ ⟨rfl, rfl⟩) | (refine CallQ_mk (c_Clone_Ty xs hne (by omega)) ?_) | with_reducible refine CallQ_no ?_ | with_reducible exact False.elim | ((with_reducible refine (?_ : _ → AC _ _ _ _ _ _)); (intro hb; (try simp only [decide_eq_true_eq, decide_eq_false_iff_not, Bool.and_eq_true, Bool.or_eq_true, Bool.and_eq_false_iff, Bool.or_eq_false_iff, Bool.not_eq_true', Bool.not_eq_false', beq_iff_eq, beq_eq_false_iff_ne, bne_iff_ne, bne_eq_false_iff_eq, gt_iff_lt, ge_iff_le, Int.not_lt, Int.not_le] at hb); (try (exfalso; omega)))) | omega | simp only [go_sem, ↓reduceIte, Nat.reduceAdd, Nat.reduceSub, Nat.reduceMul, Nat.reduceMod, Nat.reduceDiv, Nat.reduceEqDiff, Nat.reduceBNe, Nat.reduceBEq, Nat.reduceLeDiff, Nat.reduceLT, reduceCtorEq] | (intro hg; simp only [Bool.and_eq_true, Bool.or_eq_true, Bool.not_eq_true', Bool.and_eq_false_iff, Bool.or_eq_false_iff, Bool.not_eq_false', decide_eq_true_eq, decide_eq_false_iff_not, Bool.not_not, gt_iff_lt, ge_iff_le, Int.not_lt, Int.not_le] at hg ⊢; first | omega | (simp_all; done) | fail))
  refine AC_loop (fun n σ => ∃ k : Nat, k ≤ xs.length ∧ n = xs.length - k ∧ σ.t 2 = .bx 2 0 ∧ σ.b 2 = some (.box [.nil]) ∧ σ.t 3 = .bs 1008 1 (varsM xs).length ∧ σ.b 1008 = some (.arr 3 1 ((varsM xs).map iE)) ∧ σ.t 4 = .bs 1010 3 xs.length ∧ σ.b 1010 = some (.arr 31 3 ((mixC xs k).map TyI.own)) ∧ σ.t 11 = .bs 1010 3 xs.length ∧ σ.t 12 = .s (.int .i64 xs.length) ∧ σ.t 13 = .s (.int .i64 k)) xs.length ⟨0, by omega, by omega, ?_⟩ ?_
  · simp only [go_sem, ↓reduceIte, Nat.reduceAdd, Nat.reduceSub, Nat.reduceMul, Nat.reduceMod, Nat.reduceDiv, Nat.reduceEqDiff, Nat.reduceBNe, Nat.reduceBEq, Nat.reduceLeDiff, Nat.reduceLT, reduceCtorEq, Int.natCast_zero, mixC_zero]
    all_goals trace_state
  · rintro n σ ⟨k, hk, rfl, h2, hb2, h3, hb3, h4, hb4, h11, h12, h13⟩ K' hK
    by_cases hlt : k < xs.length
    · have hml := mixC_len xs hk
      have hx := getD_map TyI.own (mixC xs k) k (by omega)
      rw [mixC_at xs hlt] at hx
      have he := TyI.own_eq xs[k]
      have hml' : ((mixC xs k).map TyI.own).length = xs.length := by simp [hml]
      cases hvb : varB xs[k] with
      | false =>
        have e1 : (xs[k].name.toList == []) = false := by unfold varB at hvb; simpa using hvb
        have hsame := mixC_same xs hlt hvb
        repeat' (first | with_reducible refine ACallQ_no (.s (.bool false)) ?_ | ((with_reducible first | refine AC_go ?_ | refine ACallQ_go ?_ | refine (?_ : aft _ _ _ _ _ _) | refine (?_ : aops _ _ _ _ _) | refine (?_ : aqsN _ _ _ _ _ _ _ _)); simp only [go_sem, ↓reduceIte, Nat.reduceAdd, Nat.reduceSub, Nat.reduceMul, Nat.reduceMod, Nat.reduceDiv, Nat.reduceEqDiff, Nat.reduceBNe, Nat.reduceBEq, Nat.reduceLeDiff, Nat.reduceLT, reduceCtorEq, h2, hb2, h3, hb3, h4, hb4, h11, h12, h13, hx, he, hml', lit0, e1]; fail_if_success (with_reducible refine (?_ : False))) | with_reducible refine And.intro ?_ ?_ | with_reducible refine CallQ_no ?_ | with_reducible exact False.elim | ((with_reducible refine (?_ : _ → AC _ _ _ _ _ _)); (intro hb; (try simp only [decide_eq_true_eq, decide_eq_false_iff_not, Bool.and_eq_true, Bool.or_eq_true, Bool.and_eq_false_iff, Bool.or_eq_false_iff, Bool.not_eq_true', Bool.not_eq_false', beq_iff_eq, beq_eq_false_iff_ne, bne_iff_ne, bne_eq_false_iff_eq, gt_iff_lt, ge_iff_le, Int.not_lt, Int.not_le] at hb); (try (exfalso; omega)))) | omega | simp only [go_sem, ↓reduceIte, Nat.reduceAdd, Nat.reduceSub, Nat.reduceMul, Nat.reduceMod, Nat.reduceDiv, Nat.reduceEqDiff, Nat.reduceBNe, Nat.reduceBEq, Nat.reduceLeDiff, Nat.reduceLT, reduceCtorEq, h2, hb2, h3, hb3, h4, hb4, h11, h12, h13, hx, he, hml', lit0, e1] | (intro hg; simp only [Bool.and_eq_true, Bool.or_eq_true, Bool.not_eq_true', Bool.and_eq_false_iff, Bool.or_eq_false_iff, Bool.not_eq_false', decide_eq_true_eq, decide_eq_false_iff_not, Bool.not_not, gt_iff_lt, ge_iff_le, Int.not_lt, Int.not_le] at hg ⊢; first | omega | (simp_all; done) | fail))
        refine hK (xs.length - (k + 1)) _ (by omega) ⟨k + 1, by omega, rfl, ?_⟩
        simp only [go_sem, ↓reduceIte, Nat.reduceAdd, Nat.reduceSub, Nat.reduceMul, Nat.reduceMod, Nat.reduceDiv, Nat.reduceEqDiff, Nat.reduceBNe, Nat.reduceBEq, Nat.reduceLeDiff, Nat.reduceLT, reduceCtorEq, h2, hb2, h3, hb3, h4, hb4, h11, h12, h13, Int.natCast_succ, hsame]
        all_goals trace_state
      | true =>
        have e1 : (xs[k].name.toList == []) = true := by unfold varB at hvb; simpa using hvb
        have hm : xs[k].v ∈ varsM xs := (varsM_mem' _ _).2 ⟨_, List.getElem_mem hlt, hvb, rfl⟩
        have hfi := fidx_idxN _ _ hm
        have hci := idxN_le (varsM xs) xs[k].v
        repeat' (first | with_reducible refine ACallQ_no (.s (.bool false)) ?_ | ((with_reducible first | refine AC_go ?_ | refine ACallQ_go ?_ | refine (?_ : aft _ _ _ _ _ _) | refine (?_ : aops _ _ _ _ _) | refine (?_ : aqsN _ _ _ _ _ _ _ _)); simp only [go_sem, ↓reduceIte, Nat.reduceAdd, Nat.reduceSub, Nat.reduceMul, Nat.reduceMod, Nat.reduceDiv, Nat.reduceEqDiff, Nat.reduceBNe, Nat.reduceBEq, Nat.reduceLeDiff, Nat.reduceLT, reduceCtorEq, h2, hb2, h3, hb3, h4, hb4, h11, h12, h13, hx, he, hml', lit0, e1, hfi]; fail_if_success (with_reducible refine (?_ : False))) | with_reducible refine And.intro ?_ ?_ | (refine CallG_mk (FCon.noout (c_Index_int (varsM xs) xs[k].v)) ?_; rintro _ _ ⟨rfl, rfl⟩) | (refine CallQ_mk (c_Index_int (varsM xs) xs[k].v) ?_) | with_reducible refine CallQ_no ?_ | with_reducible exact False.elim | ((with_reducible refine (?_ : _ → AC _ _ _ _ _ _)); (intro hb; (try simp only [decide_eq_true_eq, decide_eq_false_iff_not, Bool.and_eq_true, Bool.or_eq_true, Bool.and_eq_false_iff, Bool.or_eq_false_iff, Bool.not_eq_true', Bool.not_eq_false', beq_iff_eq, beq_eq_false_iff_ne, bne_iff_ne, bne_eq_false_iff_eq, gt_iff_lt, ge_iff_le, Int.not_lt, Int.not_le] at hb); (try (exfalso; omega)))) | omega | simp only [go_sem, ↓reduceIte, Nat.reduceAdd, Nat.reduceSub, Nat.reduceMul, Nat.reduceMod, Nat.reduceDiv, Nat.reduceEqDiff, Nat.reduceBNe, Nat.reduceBEq, Nat.reduceLeDiff, Nat.reduceLT, reduceCtorEq, h2, hb2, h3, hb3, h4, hb4, h11, h12, h13, hx, he, hml', lit0, e1, hfi] | (intro hg; simp only [Bool.and_eq_true, Bool.or_eq_true, Bool.not_eq_true', Bool.and_eq_false_iff, Bool.or_eq_false_iff, Bool.not_eq_false', decide_eq_true_eq, decide_eq_false_iff_not, Bool.not_not, gt_iff_lt, ge_iff_le, Int.not_lt, Int.not_le] at hg ⊢; first | omega | (simp_all; done) | fail))
        refine hK (xs.length - (k + 1)) _ (by omega) ⟨k + 1, by omega, rfl, ?_⟩
        simp only [go_sem, ↓reduceIte, Nat.reduceAdd, Nat.reduceSub, Nat.reduceMul, Nat.reduceMod, Nat.reduceDiv, Nat.reduceEqDiff, Nat.reduceBNe, Nat.reduceBEq, Nat.reduceLeDiff, Nat.reduceLT, reduceCtorEq, h2, hb2, h3, hb3, h4, hb4, h11, h12, h13, Int.natCast_succ]
        exact congrArg (Ob.arr _ 3) (by rw [← mixC_set xs hlt, List.map_set]; congr 1; unfold canonI; rw [if_pos hvb]; rfl)
    · obtain rfl : k = xs.length := by omega
      rw [mixC_all] at hb4
      have hcl := canonM_len' xs
      have hcl' : ((canonM xs).map TyI.own).length = xs.length := by simp [hcl]
      repeat' (first | with_reducible refine ACallQ_no (.s (.bool false)) ?_ | ((with_reducible first | refine AC_go ?_ | refine ACallQ_go ?_ | refine (?_ : aft _ _ _ _ _ _) | refine (?_ : aops _ _ _ _ _) | refine (?_ : aqsN _ _ _ _ _ _ _ _)); simp only [go_sem, ↓reduceIte, Nat.reduceAdd, Nat.reduceSub, Nat.reduceMul, Nat.reduceMod, Nat.reduceDiv, Nat.reduceEqDiff, Nat.reduceBNe, Nat.reduceBEq, Nat.reduceLeDiff, Nat.reduceLT, reduceCtorEq, h2, hb2, h3, hb3, h4, hb4, h11, h12, h13, hcl, hcl']; fail_if_success (with_reducible refine (?_ : False))) | with_reducible refine And.intro ?_ ?_ | with_reducible refine CallQ_no ?_ | with_reducible exact False.elim | ((with_reducible refine (?_ : _ → AC _ _ _ _ _ _)); (intro hb; (try simp only [decide_eq_true_eq, decide_eq_false_iff_not, Bool.and_eq_true, Bool.or_eq_true, Bool.and_eq_false_iff, Bool.or_eq_false_iff, Bool.not_eq_true', Bool.not_eq_false', beq_iff_eq, beq_eq_false_iff_ne, bne_iff_ne, bne_eq_false_iff_eq, gt_iff_lt, ge_iff_le, Int.not_lt, Int.not_le] at hb); (try (exfalso; omega)))) | omega | simp only [go_sem, ↓reduceIte, Nat.reduceAdd, Nat.reduceSub, Nat.reduceMul, Nat.reduceMod, Nat.reduceDiv, Nat.reduceEqDiff, Nat.reduceBNe, Nat.reduceBEq, Nat.reduceLeDiff, Nat.reduceLT, reduceCtorEq, h2, hb2, h3, hb3, h4, hb4, h11, h12, h13, hcl, hcl'] | (intro hg; simp only [Bool.and_eq_true, Bool.or_eq_true, Bool.not_eq_true', Bool.and_eq_false_iff, Bool.or_eq_false_iff, Bool.not_eq_false', decide_eq_true_eq, decide_eq_false_iff_not, Bool.not_not, gt_iff_lt, ge_iff_le, Int.not_lt, Int.not_le] at hg ⊢; first | omega | (simp_all; done) | fail))
      all_goals trace_state
end Go.Proofs.Ytngobmjdbjlkcaa
