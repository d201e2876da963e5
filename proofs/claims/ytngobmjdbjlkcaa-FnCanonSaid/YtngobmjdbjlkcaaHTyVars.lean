import Derived.Test.YtngobmjdbjlkcaaHSort
import Derived.Test.YtngobmjdbjlkcaaHSrt
/- TyVars of both sides and its law, over the second engine. -/
namespace Go.Proofs.Ytngobmjdbjlkcaa
set_option linter.unusedVariables false
set_option linter.unusedSimpArgs false
open Go.RowKit
theorem varsStep_nodup {seen : List Int} (x : TyI) (h : seen.Nodup) : (varsStep seen x).Nodup := by
  by_cases q : varB x = true ∧ x.v ∉ seen
  · rw [varsStep_new q.1 q.2]
    exact List.nodup_append.2 ⟨h, by simp, fun a ha b hb => by simp at hb; subst hb; exact fun e => q.2 (e ▸ ha)⟩
  · rw [varsStep_old (fun p => by simpa [p] using q)]; exact h
theorem varsM_nodup (xs : List TyI) : (varsM xs).Nodup := by
  have key : ∀ (l : List TyI) (s : List Int), s.Nodup → (l.foldl varsStep s).Nodup := by
    intro l
    induction l with
    | nil => exact fun _ h => h
    | cons x l ih => exact fun s h => ih _ (varsStep_nodup x h)
  exact key xs [] List.nodup_nil
theorem rises_ext : ∀ (a b : List Int), a.Pairwise (· < ·) → b.Pairwise (· < ·) → (∀ x, x ∈ a ↔ x ∈ b) → a = b
  | [], [], _, _, _ => rfl
  | [], y :: b, _, _, h => absurd ((h y).2 (by simp)) (by simp)
  | x :: a, [], _, _, h => absurd ((h x).1 (by simp)) (by simp)
  | x :: a, y :: b, ha, hb, h => by
    obtain ⟨ha1, ha2⟩ := List.pairwise_cons.1 ha
    obtain ⟨hb1, hb2⟩ := List.pairwise_cons.1 hb
    have e : x = y := by
      rcases List.mem_cons.1 ((h x).1 (by simp)) with q | q
      · exact q
      · rcases List.mem_cons.1 ((h y).2 (by simp)) with r | r
        · exact r.symm
        · have := ha1 y r; have := hb1 x q; omega
    subst e
    rw [rises_ext a b ha2 hb2 fun z => ?_]
    have := h z
    simp only [List.mem_cons] at this
    constructor
    · intro q
      rcases this.1 (.inr q) with r | r
      · have := ha1 z q; omega
      · exact r
    · intro q
      rcases this.2 (.inr q) with r | r
      · have := hb1 z q; omega
      · exact r
theorem srt_vars (xs : List TyI) : srtI (varsM xs) = sortM xs := by
  refine rises_ext _ _ ?_ (sortM_rises xs) fun x => ?_
  · have h1 : (srtI (varsM xs)).Pairwise (· ≤ ·) := by
      have := List.pairwise_mergeSort (le := fun x y : Int => decide (x ≤ y)) (fun a b c => by simp; omega) (fun a b => by simp; omega) (varsM xs)
      exact this.imp fun h => by simpa using h
    have h2 : (srtI (varsM xs)).Nodup := (List.mergeSort_perm _ _).nodup_iff.2 (varsM_nodup xs)
    exact (h1.and h2).imp fun ⟨a, b⟩ => by omega
  · rw [sortM_mem]; exact List.mem_mergeSort
def tyVarsM (xs : List TyI) : List Int := if tyOkM xs then sortM xs else []
theorem iE_if (b : Bool) (l : List Int) : (if b = true then l.map iE else []) = (if b = true then l else []).map iE := by cases b <;> rfl
set_option maxRecDepth 100000 in
theorem c_implTyVars (xs : List TyI) (ho : ∀ x ∈ xs, x.ok) (hl : xs.length ≤ 1048576) : FCon Try.prog 39 [.ag [.sl 3 (xs.map TyI.enc)]] (fun r _ => r = .osl 3 1 ((tyVarsM xs).map iE)) := by
  unfold tyVarsM
  rw [← iE_if]
  refine FCon.nilO ?_
  have hv := varsM_len' xs
  refine FCon.intro PM _ Try.func39 (by kernel_rfl) rfl _ Try.ntmps39 rfl [] (by decide +kernel) (by simp) (by simp) rfl (by first | rfl | simp only [go_sem]) ?_
  repeat' (first | with_reducible refine ACallQ_no (.s (.bool false)) ?_ | ((with_reducible first | refine AC_go ?_ | refine ACallQ_go ?_ | refine (?_ : aft _ _ _ _ _ _) | refine (?_ : aops _ _ _ _ _) | refine (?_ : aqsN _ _ _ _ _ _ _ _)); simp only [go_sem, ↓reduceIte, Nat.reduceAdd, Nat.reduceSub, Nat.reduceMul, Nat.reduceMod, Nat.reduceDiv, Nat.reduceEqDiff, Nat.reduceBNe, Nat.reduceBEq, Nat.reduceLeDiff, Nat.reduceLT, reduceCtorEq]; fail_if_success (with_reducible refine (?_ : False))) | with_reducible refine And.intro ?_ ?_ | (refine CallG_mk (FCon.noout (c_implTyOk xs ho hl)) ?_; rintro _ _ ⟨rfl, rfl⟩) | (refine CallQ_mk (c_implTyOk xs ho hl) ?_) | (refine CallG_mk (FCon.noout (c_varsIn xs (by omega))) ?_; rintro _ _ ⟨rfl, rfl⟩) | (refine CallQ_mk (c_varsIn xs (by omega)) ?_) | (refine CallG_mk (c_Sort _ (varsM xs) (by omega)) ?_; rintro _ _ ⟨rfl, rfl⟩) | (refine CallQ_mk (c_Sort _ (varsM xs) (by omega)) ?_) | with_reducible refine CallQ_no ?_ | with_reducible exact False.elim | ((with_reducible refine (?_ : _ → AC _ _ _ _ _ _)); (intro hb; (try simp only [decide_eq_true_eq, decide_eq_false_iff_not, Bool.and_eq_true, Bool.or_eq_true, Bool.and_eq_false_iff, Bool.or_eq_false_iff, Bool.not_eq_true', Bool.not_eq_false', beq_iff_eq, beq_eq_false_iff_ne, bne_iff_ne, bne_eq_false_iff_eq, gt_iff_lt, ge_iff_le, Int.not_lt, Int.not_le] at hb); (try (exfalso; omega)))) | omega | simp only [go_sem, ↓reduceIte, Nat.reduceAdd, Nat.reduceSub, Nat.reduceMul, Nat.reduceMod, Nat.reduceDiv, Nat.reduceEqDiff, Nat.reduceBNe, Nat.reduceBEq, Nat.reduceLeDiff, Nat.reduceLT, reduceCtorEq] | (intro hg; simp only [Bool.and_eq_true, Bool.or_eq_true, Bool.not_eq_true', Bool.and_eq_false_iff, Bool.or_eq_false_iff, Bool.not_eq_false', decide_eq_true_eq, decide_eq_false_iff_not, Bool.not_not, gt_iff_lt, ge_iff_le, Int.not_lt, Int.not_le] at hg ⊢; first | omega | (simp_all; done) | fail))
  · simp [hb]
  · simp [srtI_len]
  · rw [takeL (by simp [srtI_len]), srt_vars, hb]; rfl
set_option maxRecDepth 100000 in
theorem c_specTyVars (xs : List TyI) (ho : ∀ x ∈ xs, x.ok) (hl : xs.length ≤ 1048576) : FCon Try.prog 38 [.ag [.sl 3 (xs.map TyI.enc)]] (fun r _ => r = intsD (tyVarsM xs)) := by
  unfold tyVarsM intsD
  rw [← iE_if]
  refine FCon.nilS ?_
  refine FCon.intro PM _ Try.func38 (by kernel_rfl) rfl _ Try.ntmps38 rfl [] (by decide +kernel) (by simp) (by simp) rfl (by first | rfl | simp only [go_sem]) ?_
  repeat' (first | with_reducible refine ACallQ_no (.s (.bool false)) ?_ | ((with_reducible first | refine AC_go ?_ | refine ACallQ_go ?_ | refine (?_ : aft _ _ _ _ _ _) | refine (?_ : aops _ _ _ _ _) | refine (?_ : aqsN _ _ _ _ _ _ _ _)); simp only [go_sem, ↓reduceIte, Nat.reduceAdd, Nat.reduceSub, Nat.reduceMul, Nat.reduceMod, Nat.reduceDiv, Nat.reduceEqDiff, Nat.reduceBNe, Nat.reduceBEq, Nat.reduceLeDiff, Nat.reduceLT, reduceCtorEq]; fail_if_success (with_reducible refine (?_ : False))) | with_reducible refine And.intro ?_ ?_ | (refine CallG_mk (FCon.noout (c_specTyOk xs ho (by omega))) ?_; rintro _ _ ⟨rfl, rfl⟩) | (refine CallQ_mk (c_specTyOk xs ho (by omega)) ?_) | (refine CallG_mk (FCon.noout (c_l05Vars xs hl)) ?_; rintro _ _ ⟨rfl, rfl⟩) | (refine CallQ_mk (c_l05Vars xs hl) ?_) | with_reducible refine CallQ_no ?_ | with_reducible exact False.elim | ((with_reducible refine (?_ : _ → AC _ _ _ _ _ _)); (intro hb; (try simp only [decide_eq_true_eq, decide_eq_false_iff_not, Bool.and_eq_true, Bool.or_eq_true, Bool.and_eq_false_iff, Bool.or_eq_false_iff, Bool.not_eq_true', Bool.not_eq_false', beq_iff_eq, beq_eq_false_iff_ne, bne_iff_ne, bne_eq_false_iff_eq, gt_iff_lt, ge_iff_le, Int.not_lt, Int.not_le] at hb); (try (exfalso; omega)))) | omega | simp only [go_sem, ↓reduceIte, Nat.reduceAdd, Nat.reduceSub, Nat.reduceMul, Nat.reduceMod, Nat.reduceDiv, Nat.reduceEqDiff, Nat.reduceBNe, Nat.reduceBEq, Nat.reduceLeDiff, Nat.reduceLT, reduceCtorEq] | (intro hg; simp only [Bool.and_eq_true, Bool.or_eq_true, Bool.not_eq_true', Bool.and_eq_false_iff, Bool.or_eq_false_iff, Bool.not_eq_false', decide_eq_true_eq, decide_eq_false_iff_not, Bool.not_not, gt_iff_lt, ge_iff_le, Int.not_lt, Int.not_le] at hg ⊢; first | omega | (simp_all; done) | fail))
  · simp [hb]
  · simp [hb, intsD]
theorem tyVarsM_len (xs : List TyI) : (tyVarsM xs).length ≤ xs.length := by
  unfold tyVarsM
  split
  · have := sortM_len xs xs.length (Nat.le_refl _); rwa [List.take_length] at this
  · simp
set_option maxRecDepth 100000 in
set_option maxHeartbeats 4000000 in
theorem c_FnExactTyVars (xs : List TyI) (ho : ∀ x ∈ xs, x.ok) : FCon Try.prog 8 [.ag [.sl 3 (xs.map TyI.enc)]] (fun r _ => r = .s (.bool true)) := by
  refine FCon.intro PM _ Try.func8 (by kernel_rfl) rfl _ Try.ntmps8 rfl [(10, 5, [], [], [0, 1, 2, 3, 4])] (by decide +kernel) (by simp) (by simp) rfl (by first | rfl | simp only [go_sem]) ?_
  by_cases hz : smS TyI.sm xs
  · have hm : (⟨xs⟩ : MTy).sm := hz
    have hl := hz.1
    have hn := tyVarsM_len xs
    have hc1 : (MTy.cnt ⟨xs⟩ : Nat) = 3 * xs.length := cnts_const (fun _ => rfl) xs
    have hc2 : cnts (fun _ : Int => 1) (tyVarsM xs) = 1 * (tyVarsM xs).length := cnts_const (fun _ => rfl) _
    repeat' (first | with_reducible refine ACallQ_no (.s (.bool false)) ?_ | ((with_reducible first | refine AC_go ?_ | refine ACallQ_go ?_ | refine (?_ : aft _ _ _ _ _ _) | refine (?_ : aops _ _ _ _ _) | refine (?_ : aqsN _ _ _ _ _ _ _ _)); simp only [go_sem, ↓reduceIte, Nat.reduceAdd, Nat.reduceSub, Nat.reduceMul, Nat.reduceMod, Nat.reduceDiv, Nat.reduceEqDiff, Nat.reduceBNe, Nat.reduceBEq, Nat.reduceLeDiff, Nat.reduceLT, reduceCtorEq, MTy.enc_eq, MTy.own_eq, marks_len]; fail_if_success (with_reducible refine (?_ : False))) | with_reducible refine And.intro ?_ ?_ | (refine CallG_mk (c_szTy ⟨xs⟩ ho _ (by omega) (by omega)) ?_; rintro _ _ ⟨z, rfl, za, zb, zc⟩) | (refine CallQ_mk (c_szTy ⟨xs⟩ ho _ (by omega) (by omega)) ?_) | (refine CallG_mk (FCon.noout (c_toTy ⟨xs⟩ hm)) ?_; rintro _ _ ⟨rfl, rfl⟩) | (refine CallQ_mk (c_toTy ⟨xs⟩ hm) ?_) | (refine CallG_mk (FCon.noout (c_specTyVars xs ho hl)) ?_; rintro _ _ ⟨rfl, rfl⟩) | (refine CallQ_mk (c_specTyVars xs ho hl) ?_) | (refine CallG_mk (FCon.noout (c_implTyVars xs ho hl)) ?_; rintro _ _ ⟨rfl, rfl⟩) | (refine CallQ_mk (c_implTyVars xs ho hl) ?_) | (refine CallG_mk (FCon.noout (c_eqIntS (tyVarsM xs))) ?_; rintro _ _ ⟨rfl, rfl⟩) | (refine CallQ_mk (c_eqIntS (tyVarsM xs)) ?_) | (refine CallG_mk (FCon.noout (c_eqTy ⟨xs⟩)) ?_; rintro _ _ ⟨rfl, rfl⟩) | (refine CallQ_mk (c_eqTy ⟨xs⟩) ?_) | (refine CallG_mk (c_markTy ⟨xs⟩ hm 1 (by omega) (by omega)) ?_; rintro _ _ ⟨rfl, rfl⟩) | (refine CallQ_mk (c_markTy ⟨xs⟩ hm 1 (by omega) (by omega)) ?_) | (refine CallG_mk (c_markIntS (tyVarsM xs) (by omega) 1 (by omega) (by omega)) ?_; rintro _ _ ⟨rfl, rfl⟩) | (refine CallQ_mk (c_markIntS (tyVarsM xs) (by omega) 1 (by omega) (by omega)) ?_) | (refine CallG_mk (FCon.noout (c_heldIntS (tyVarsM xs) (by omega) 1 (by omega) (by omega))) ?_; rintro _ _ ⟨rfl, rfl⟩) | (refine CallQ_mk (c_heldIntS (tyVarsM xs) (by omega) 1 (by omega) (by omega)) ?_) | with_reducible refine CallQ_no ?_ | with_reducible exact False.elim | ((with_reducible refine (?_ : _ → AC _ _ _ _ _ _)); (intro hb; (try simp only [decide_eq_true_eq, decide_eq_false_iff_not, Bool.and_eq_true, Bool.or_eq_true, Bool.and_eq_false_iff, Bool.or_eq_false_iff, Bool.not_eq_true', Bool.not_eq_false', beq_iff_eq, beq_eq_false_iff_ne, bne_iff_ne, bne_eq_false_iff_eq, gt_iff_lt, ge_iff_le, Int.not_lt, Int.not_le] at hb); (try (exfalso; omega)))) | omega | simp only [go_sem, ↓reduceIte, Nat.reduceAdd, Nat.reduceSub, Nat.reduceMul, Nat.reduceMod, Nat.reduceDiv, Nat.reduceEqDiff, Nat.reduceBNe, Nat.reduceBEq, Nat.reduceLeDiff, Nat.reduceLT, reduceCtorEq, MTy.enc_eq, MTy.own_eq, marks_len] | (intro hg; simp only [Bool.and_eq_true, Bool.or_eq_true, Bool.not_eq_true', Bool.and_eq_false_iff, Bool.or_eq_false_iff, Bool.not_eq_false', decide_eq_true_eq, decide_eq_false_iff_not, Bool.not_not, gt_iff_lt, ge_iff_le, Int.not_lt, Int.not_le] at hg ⊢; first | omega | (simp_all; done) | fail))

  · repeat' (first | with_reducible refine ACallQ_no (.s (.bool false)) ?_ | ((with_reducible first | refine AC_go ?_ | refine ACallQ_go ?_ | refine (?_ : aft _ _ _ _ _ _) | refine (?_ : aops _ _ _ _ _) | refine (?_ : aqsN _ _ _ _ _ _ _ _)); simp only [go_sem, ↓reduceIte, Nat.reduceAdd, Nat.reduceSub, Nat.reduceMul, Nat.reduceMod, Nat.reduceDiv, Nat.reduceEqDiff, Nat.reduceBNe, Nat.reduceBEq, Nat.reduceLeDiff, Nat.reduceLT, reduceCtorEq]; fail_if_success (with_reducible refine (?_ : False))) | with_reducible refine And.intro ?_ ?_ | (refine CallG_mk (c_szTy ⟨xs⟩ ho _ (by omega) (by omega)) ?_; rintro _ _ ⟨z, rfl, za, zb, zc⟩) | (refine CallQ_mk (c_szTy ⟨xs⟩ ho _ (by omega) (by omega)) ?_) | with_reducible refine CallQ_no ?_ | with_reducible exact False.elim | ((with_reducible refine (?_ : _ → AC _ _ _ _ _ _)); (intro hb; (try simp only [decide_eq_true_eq, decide_eq_false_iff_not, Bool.and_eq_true, Bool.or_eq_true, Bool.and_eq_false_iff, Bool.or_eq_false_iff, Bool.not_eq_true', Bool.not_eq_false', beq_iff_eq, beq_eq_false_iff_ne, bne_iff_ne, bne_eq_false_iff_eq, gt_iff_lt, ge_iff_le, Int.not_lt, Int.not_le] at hb); (try (exfalso; omega)))) | omega | simp only [go_sem, ↓reduceIte, Nat.reduceAdd, Nat.reduceSub, Nat.reduceMul, Nat.reduceMod, Nat.reduceDiv, Nat.reduceEqDiff, Nat.reduceBNe, Nat.reduceBEq, Nat.reduceLeDiff, Nat.reduceLT, reduceCtorEq] | (intro hg; simp only [Bool.and_eq_true, Bool.or_eq_true, Bool.not_eq_true', Bool.and_eq_false_iff, Bool.or_eq_false_iff, Bool.not_eq_false', decide_eq_true_eq, decide_eq_false_iff_not, Bool.not_not, gt_iff_lt, ge_iff_le, Int.not_lt, Int.not_le] at hg ⊢; first | omega | (simp_all; done) | fail))
    all_goals exact absurd (zc hb) hz
end Go.Proofs.Ytngobmjdbjlkcaa
