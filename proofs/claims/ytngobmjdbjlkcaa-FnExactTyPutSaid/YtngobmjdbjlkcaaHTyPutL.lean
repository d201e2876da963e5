import Derived.Test.YtngobmjdbjlkcaaHTyPut
/- The law of TyPut, over the second engine. -/
namespace Go.Proofs.Ytngobmjdbjlkcaa
set_option linter.unusedVariables false
set_option linter.unusedSimpArgs false
open Go.RowKit
theorem pure_tupL (xs : List D) : Pure (.tup xs) = ∀ d ∈ xs, Pure d := propext ⟨fun h d hd => by
  obtain ⟨j, hj⟩ := List.mem_iff_getElem?.1 hd
  cases h with
  | tup h => exact h j d hj, fun h => .tup fun j d hj => h d (List.mem_of_getElem? hj)⟩
theorem cnts_bound {α : Type} {c : α → Nat} {B : Nat} : ∀ l : List α, (∀ x ∈ l, c x ≤ B) → cnts c l ≤ l.length * B
  | [], _ => by simp [cnts]
  | x :: l, h => by
    have := cnts_bound l fun y hy => h y (by simp [hy])
    have h2 := h x (by simp)
    rw [cnts, List.length_cons, Nat.add_mul]; omega
theorem tyPutM_sm {xs : List TyI} {l : List SubM} (h : smS TyI.sm xs) (hs : smS SubM.sm l) : smS TyI.sm (tyPutM xs l) := by
  unfold tyPutM
  split
  · rename_i hb
    unfold tyPutB at hb
    simp only [Bool.and_eq_true, decide_eq_true_eq] at hb
    refine ⟨by omega, fun x hx => ?_⟩
    obtain ⟨y, hy, hxy⟩ := List.mem_flatMap.1 hx
    unfold putI at hxy
    split at hxy
    · split at hxy
      · rename_i s hf; exact (hs.2 s (List.mem_of_find?_eq_some hf)).2 x hxy
      · simp at hxy; subst hxy; exact h.2 x hy
    · simp at hxy; subst hxy; exact h.2 x hy
  · exact ⟨by simp, fun x hx => by cases hx⟩
set_option maxRecDepth 100000 in
set_option maxHeartbeats 8000000 in
theorem c_FnExactTyPut (xs : List TyI) (l : List SubM) (ho : ∀ x ∈ xs, x.ok) (hol : ∀ s ∈ l, s.ok) : FCon Try.prog 4 [.ag [.sl 3 (xs.map TyI.enc)], .sl 2 (l.map SubM.enc)] (fun r _ => r = .s (.bool true)) := by
  refine FCon.intro PM _ Try.func4 (by kernel_rfl) rfl _ Try.ntmps4 rfl [(14, 5, [], [], [0, 1, 2, 3, 4])] (by decide +kernel) (by simp) (by simp) rfl (by first | rfl | simp only [go_sem]) ?_
  by_cases hz : smS TyI.sm xs ∧ smS SubM.sm l
  · obtain ⟨hx, hs⟩ := hz
    have hm : (⟨xs⟩ : MTy).sm := hx
    have hg : (⟨tyPutM xs l⟩ : MTy).sm := tyPutM_sm hx hs
    have hl := hx.1
    have hls := hs.1
    have hb0 : (putX l xs).length ≤ 2199023255552 := by
      have := putX_bound (l := l) (fun s h => (hs.2 s h).1) xs
      have : xs.length * 1048576 ≤ 1048576 * 1048576 := Nat.mul_le_mul_right _ hl
      omega
    have hc1 : (MTy.cnt ⟨xs⟩ : Nat) = 3 * xs.length := cnts_const (fun _ => rfl) xs
    have hc2 : (MTy.cnt ⟨tyPutM xs l⟩ : Nat) = 3 * (tyPutM xs l).length := cnts_const (fun _ => rfl) _
    have hc3 : (tyPutM xs l).length ≤ 1048576 := hg.1
    have hc4 : cnts SubM.cnt l ≤ 3298535931904 := by
      have h1 := cnts_bound (c := SubM.cnt) (B := 3145729) l fun s h => by
        have e : cnts TyI.cnt s.ty = 3 * s.ty.length := cnts_const (fun _ => rfl) _
        have := (hs.2 s h).1
        show 1 + cnts TyI.cnt s.ty ≤ _
        omega
      have : l.length * 3145729 ≤ 1048576 * 3145729 := Nat.mul_le_mul_right _ hls
      omega
    repeat' (first | with_reducible refine ACallQ_no (.s (.bool false)) ?_ | ((with_reducible first | refine AC_go ?_ | refine ACallQ_go ?_ | refine (?_ : aft _ _ _ _ _ _) | refine (?_ : aops _ _ _ _ _) | refine (?_ : aqsN _ _ _ _ _ _ _ _)); simp only [go_sem, ↓reduceIte, Nat.reduceAdd, Nat.reduceSub, Nat.reduceMul, Nat.reduceMod, Nat.reduceDiv, Nat.reduceEqDiff, Nat.reduceBNe, Nat.reduceBEq, Nat.reduceLeDiff, Nat.reduceLT, reduceCtorEq, MTy.enc_eq, MTy.own_eq, MTy.mark, marks_len, pure_tupL]; fail_if_success (with_reducible refine (?_ : False))) | with_reducible refine And.intro ?_ ?_ | (refine CallG_mk (c_szTy ⟨xs⟩ ho _ (by omega) (by omega)) ?_; rintro _ _ ⟨z, rfl, za, zb, zc⟩) | (refine CallQ_mk (c_szTy ⟨xs⟩ ho _ (by omega) (by omega)) ?_) | (refine CallG_mk (c_szSubS l hol _ (by omega) (by omega)) ?_; rintro _ _ ⟨y, rfl, ya, yb, yc⟩) | (refine CallQ_mk (c_szSubS l hol _ (by omega) (by omega)) ?_) | (refine CallG_mk (FCon.noout (c_toTy ⟨xs⟩ hm)) ?_; rintro _ _ ⟨rfl, rfl⟩) | (refine CallQ_mk (c_toTy ⟨xs⟩ hm) ?_) | (refine CallG_mk (FCon.noout (c_toSubS l hs)) ?_; rintro _ _ ⟨rfl, rfl⟩) | (refine CallQ_mk (c_toSubS l hs) ?_) | (refine CallG_mk (FCon.noout (c_specTyPut xs l ho hol hl hs hb0)) ?_; rintro _ _ ⟨rfl, rfl⟩) | (refine CallQ_mk (c_specTyPut xs l ho hol hl hs hb0) ?_) | (refine CallG_mk (FCon.noout (c_implTyPut xs l ho hol hl hs hb0)) ?_; rintro _ _ ⟨rfl, rfl⟩) | (refine CallQ_mk (c_implTyPut xs l ho hol hl hs hb0) ?_) | (refine CallG_mk (FCon.noout (c_eqTy ⟨tyPutM xs l⟩)) ?_; rintro _ _ ⟨rfl, rfl⟩) | (refine CallQ_mk (c_eqTy ⟨tyPutM xs l⟩) ?_) | (refine CallG_mk (FCon.noout (c_eqTy ⟨xs⟩)) ?_; rintro _ _ ⟨rfl, rfl⟩) | (refine CallQ_mk (c_eqTy ⟨xs⟩) ?_) | (refine CallG_mk (FCon.noout (c_eqSubS l)) ?_; rintro _ _ ⟨rfl, rfl⟩) | (refine CallQ_mk (c_eqSubS l) ?_) | (refine CallG_mk (c_markTy ⟨xs⟩ hm 1 (by omega) (by omega)) ?_; rintro _ _ ⟨rfl, rfl⟩) | (refine CallQ_mk (c_markTy ⟨xs⟩ hm 1 (by omega) (by omega)) ?_) | (refine CallG_mk (c_markSubS l hs _ (by omega) (by omega)) ?_; rintro _ _ ⟨rfl, rfl⟩) | (refine CallQ_mk (c_markSubS l hs _ (by omega) (by omega)) ?_) | (refine CallG_mk (c_markTy ⟨tyPutM xs l⟩ hg 1 (by omega) (by omega)) ?_; rintro _ _ ⟨rfl, rfl⟩) | (refine CallQ_mk (c_markTy ⟨tyPutM xs l⟩ hg 1 (by omega) (by omega)) ?_) | (refine CallG_mk (FCon.noout (c_heldTy ⟨tyPutM xs l⟩ hg 1 (by omega) (by omega))) ?_; rintro _ _ ⟨rfl, rfl⟩) | (refine CallQ_mk (c_heldTy ⟨tyPutM xs l⟩ hg 1 (by omega) (by omega)) ?_) | with_reducible refine CallQ_no ?_ | with_reducible exact False.elim | ((with_reducible refine (?_ : _ → AC _ _ _ _ _ _)); (intro hb; (try simp only [decide_eq_true_eq, decide_eq_false_iff_not, Bool.and_eq_true, Bool.or_eq_true, Bool.and_eq_false_iff, Bool.or_eq_false_iff, Bool.not_eq_true', Bool.not_eq_false', beq_iff_eq, beq_eq_false_iff_ne, bne_iff_ne, bne_eq_false_iff_eq, gt_iff_lt, ge_iff_le, Int.not_lt, Int.not_le] at hb); (try (exfalso; omega)))) | omega | simp only [go_sem, ↓reduceIte, Nat.reduceAdd, Nat.reduceSub, Nat.reduceMul, Nat.reduceMod, Nat.reduceDiv, Nat.reduceEqDiff, Nat.reduceBNe, Nat.reduceBEq, Nat.reduceLeDiff, Nat.reduceLT, reduceCtorEq, MTy.enc_eq, MTy.own_eq, MTy.mark, marks_len, pure_tupL] | (intro hg; simp only [Bool.and_eq_true, Bool.or_eq_true, Bool.not_eq_true', Bool.and_eq_false_iff, Bool.or_eq_false_iff, Bool.not_eq_false', decide_eq_true_eq, decide_eq_false_iff_not, Bool.not_not, gt_iff_lt, ge_iff_le, Int.not_lt, Int.not_le] at hg ⊢; first | omega | (simp_all; done) | fail))
  · repeat' (first | with_reducible refine ACallQ_no (.s (.bool false)) ?_ | ((with_reducible first | refine AC_go ?_ | refine ACallQ_go ?_ | refine (?_ : aft _ _ _ _ _ _) | refine (?_ : aops _ _ _ _ _) | refine (?_ : aqsN _ _ _ _ _ _ _ _)); simp only [go_sem, ↓reduceIte, Nat.reduceAdd, Nat.reduceSub, Nat.reduceMul, Nat.reduceMod, Nat.reduceDiv, Nat.reduceEqDiff, Nat.reduceBNe, Nat.reduceBEq, Nat.reduceLeDiff, Nat.reduceLT, reduceCtorEq]; fail_if_success (with_reducible refine (?_ : False))) | with_reducible refine And.intro ?_ ?_ | (refine CallG_mk (c_szTy ⟨xs⟩ ho _ (by omega) (by omega)) ?_; rintro _ _ ⟨z, rfl, za, zb, zc⟩) | (refine CallQ_mk (c_szTy ⟨xs⟩ ho _ (by omega) (by omega)) ?_) | (refine CallG_mk (c_szSubS l hol _ (by omega) (by omega)) ?_; rintro _ _ ⟨y, rfl, ya, yb, yc⟩) | (refine CallQ_mk (c_szSubS l hol _ (by omega) (by omega)) ?_) | with_reducible refine CallQ_no ?_ | with_reducible exact False.elim | ((with_reducible refine (?_ : _ → AC _ _ _ _ _ _)); (intro hb; (try simp only [decide_eq_true_eq, decide_eq_false_iff_not, Bool.and_eq_true, Bool.or_eq_true, Bool.and_eq_false_iff, Bool.or_eq_false_iff, Bool.not_eq_true', Bool.not_eq_false', beq_iff_eq, beq_eq_false_iff_ne, bne_iff_ne, bne_eq_false_iff_eq, gt_iff_lt, ge_iff_le, Int.not_lt, Int.not_le] at hb); (try (exfalso; omega)))) | omega | simp only [go_sem, ↓reduceIte, Nat.reduceAdd, Nat.reduceSub, Nat.reduceMul, Nat.reduceMod, Nat.reduceDiv, Nat.reduceEqDiff, Nat.reduceBNe, Nat.reduceBEq, Nat.reduceLeDiff, Nat.reduceLT, reduceCtorEq] | (intro hg; simp only [Bool.and_eq_true, Bool.or_eq_true, Bool.not_eq_true', Bool.and_eq_false_iff, Bool.or_eq_false_iff, Bool.not_eq_false', decide_eq_true_eq, decide_eq_false_iff_not, Bool.not_not, gt_iff_lt, ge_iff_le, Int.not_lt, Int.not_le] at hg ⊢; first | omega | (simp_all; done) | fail))
    all_goals exact absurd ⟨zc (by omega), yc (by omega)⟩ hz
end Go.Proofs.Ytngobmjdbjlkcaa
