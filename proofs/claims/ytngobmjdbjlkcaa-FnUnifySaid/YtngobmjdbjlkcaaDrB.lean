import Derived.Test.YtngobmjdbjlkcaaDrTy
import Derived.Test.YtngobmjdbjlkcaaPuB
/- The drawn types, exactly what follows from the cursor; two types at once; over the second engine. -/
namespace Go.Proofs.Ytngobmjdbjlkcaa
set_option linter.unusedVariables false
set_option linter.unusedSimpArgs false
open Go.RowKit
def DetOf (m : Nat) (c : Cur) (vars deep : Int) : Prop := ∃ (xs : List TyI) (c' : Cur), 0 < xs.length ∧ xs.length < m ∧ (∀ x ∈ xs, x.ok) ∧ FCon Try.prog 53 [c.d, .s (.int .i64 vars), .s (.int .i64 deep)] (fun r o => r = .ag [.osl 31 3 (xs.map TyI.own)] ∧ o = [Cur.d c', .un, .un])
theorem one_ok {x : TyI} (h : x.ok) : ∀ y ∈ [x], y.ok := fun y hy => by simp at hy; subst hy; exact h
set_option maxRecDepth 100000 in
set_option maxHeartbeats 8000000 in
theorem d_leaf (f : Nat) (c : Cur) (vars : Int) (deep : Int) (v0 : 0 < vars) (v1 : vars ≤ 100) (k : Int) (c1 : Cur) (B1 : FCon Try.prog 51 [c.d, .s (.int .i64 9)] (fun r o => r = .s (.int .i64 k) ∧ o = [Cur.d c1, .un])) (hlf : (decide (deep > 4) = true ∧ True) ∨ (decide (deep > 4) = false ∧ decide (k < 3) = true)) : DetOf (2 ^ (f + 1)) c vars deep := by
  have hm : 2 ≤ 2 ^ (f + 1) := by
    have h1 : 2 ^ 1 ≤ 2 ^ (f + 1) := Nat.pow_le_pow_right (by decide) (Nat.le_add_left 1 f)
    simpa using h1
  have e0 : decide (vars > 0) = true := by simpa using v0
  obtain ⟨j, c2, j0, j1, B2⟩ := below_eq' c1 (n := 2) (by omega) (by omega)
  by_cases hj : j = 0
  · subst hj
    obtain ⟨q, c3, q0, q1, B3⟩ := below_eq' c2 v0 (by omega)
    refine ⟨[⟨q, ⟨#[]⟩, 0⟩], c3, by simp, hm, one_ok (ok_var q0 (by omega)), ?_⟩
    rcases hlf with ⟨e1, e2⟩ | ⟨e1, e2⟩
    all_goals
      refine FCon.intro PM _ Try.func53 (by kernel_rfl) rfl _ Try.ntmps53 rfl [(8, 7, [2, 7], [(2, 0), (2, 5), (2, 6)], (lin [2, 7] [0, 1, 5, 6, 2, 3, 4])), (10, 8, [2, 8], [(2, 0), (2, 5), (2, 6), (2, 7)], (lin [2, 8] [0, 1, 5, 6, 7, 2, 3, 4]))] (by decide +kernel) (by simp) (by simp) rfl (by first | rfl | simp only [go_sem]) ?_
      (have hWf := WFx.mk (And.intro @e0 <| And.intro @e1 <| And.intro @e2 <| @TyI.own_eq); repeat' (first | refine zS ?_ | exact zE | with_reducible apply And.intro | ((with_reducible apply q_CallG); refine CallG_mk (B1) ?_; rintro _ _ ⟨rfl, rfl⟩) | ((with_reducible apply q_CallQ); refine CallQ_mk (B1) ?_) | ((with_reducible apply q_CallG); refine CallG_mk (B2) ?_; rintro _ _ ⟨rfl, rfl⟩) | ((with_reducible apply q_CallQ); refine CallQ_mk (B2) ?_) | ((with_reducible apply q_CallG); refine CallG_mk (B3) ?_; rintro _ _ ⟨rfl, rfl⟩) | ((with_reducible apply q_CallQ); refine CallQ_mk (B3) ?_) | ((with_reducible intro hb0); revert hb0; with_reducible first | exact zB0 | refine zB fun hb => ?_ | fail) | ((with_reducible apply q_Meet); exact zM) | exact zC | refine zT ?_ | fail))
  · have e3 : (j == 0) = false := by simpa using hj
    obtain ⟨q, c3, q0, q1, B3⟩ := below_eq' c2 (n := 4) (by omega) (by omega)
    have hq : q = 0 ∨ q = 1 ∨ q = 2 ∨ q = 3 := by omega
    rcases hq with rfl | rfl | rfl | rfl
    · refine ⟨[⟨0, (⟨#[105, 110, 116]⟩ : ByteArray), 0⟩], c3, by simp, hm, one_ok (ok_con (by decide)), ?_⟩
      rcases hlf with ⟨e1, e2⟩ | ⟨e1, e2⟩
      all_goals
        refine FCon.intro PM _ Try.func53 (by kernel_rfl) rfl _ Try.ntmps53 rfl [(8, 7, [2, 7], [(2, 0), (2, 5), (2, 6)], (lin [2, 7] [0, 1, 5, 6, 2, 3, 4])), (10, 8, [2, 8], [(2, 0), (2, 5), (2, 6), (2, 7)], (lin [2, 8] [0, 1, 5, 6, 7, 2, 3, 4]))] (by decide +kernel) (by simp) (by simp) rfl (by first | rfl | simp only [go_sem]) ?_
        (have hWf := WFx.mk (And.intro @e0 <| And.intro @e1 <| And.intro @e2 <| And.intro @e3 <| And.intro @tint0 <| And.intro @tint1 <| And.intro @tint2 <| @tint3); repeat' (first | refine zS ?_ | exact zE | with_reducible apply And.intro | ((with_reducible apply q_CallG); refine CallG_mk (B1) ?_; rintro _ _ ⟨rfl, rfl⟩) | ((with_reducible apply q_CallQ); refine CallQ_mk (B1) ?_) | ((with_reducible apply q_CallG); refine CallG_mk (B2) ?_; rintro _ _ ⟨rfl, rfl⟩) | ((with_reducible apply q_CallQ); refine CallQ_mk (B2) ?_) | ((with_reducible apply q_CallG); refine CallG_mk (B3) ?_; rintro _ _ ⟨rfl, rfl⟩) | ((with_reducible apply q_CallQ); refine CallQ_mk (B3) ?_) | ((with_reducible apply q_CallG); refine zG (c_l03Named0 _) ?_) | ((with_reducible apply q_CallQ); refine CallQ_mk (c_l03Named0 _) ?_) | ((with_reducible intro hb0); revert hb0; with_reducible first | exact zB0 | refine zB fun hb => ?_ | fail) | ((with_reducible apply q_Meet); exact zM) | exact zC | refine zT ?_ | fail))
    · refine ⟨[⟨0, (⟨#[98, 111, 111, 108]⟩ : ByteArray), 0⟩], c3, by simp, hm, one_ok (ok_con (by decide)), ?_⟩
      rcases hlf with ⟨e1, e2⟩ | ⟨e1, e2⟩
      all_goals
        refine FCon.intro PM _ Try.func53 (by kernel_rfl) rfl _ Try.ntmps53 rfl [(8, 7, [2, 7], [(2, 0), (2, 5), (2, 6)], (lin [2, 7] [0, 1, 5, 6, 2, 3, 4])), (10, 8, [2, 8], [(2, 0), (2, 5), (2, 6), (2, 7)], (lin [2, 8] [0, 1, 5, 6, 7, 2, 3, 4]))] (by decide +kernel) (by simp) (by simp) rfl (by first | rfl | simp only [go_sem]) ?_
        (have hWf := WFx.mk (And.intro @e0 <| And.intro @e1 <| And.intro @e2 <| And.intro @e3 <| And.intro @tint0 <| And.intro @tint1 <| And.intro @tint2 <| @tint3); repeat' (first | refine zS ?_ | exact zE | with_reducible apply And.intro | ((with_reducible apply q_CallG); refine CallG_mk (B1) ?_; rintro _ _ ⟨rfl, rfl⟩) | ((with_reducible apply q_CallQ); refine CallQ_mk (B1) ?_) | ((with_reducible apply q_CallG); refine CallG_mk (B2) ?_; rintro _ _ ⟨rfl, rfl⟩) | ((with_reducible apply q_CallQ); refine CallQ_mk (B2) ?_) | ((with_reducible apply q_CallG); refine CallG_mk (B3) ?_; rintro _ _ ⟨rfl, rfl⟩) | ((with_reducible apply q_CallQ); refine CallQ_mk (B3) ?_) | ((with_reducible apply q_CallG); refine zG (c_l03Named0 _) ?_) | ((with_reducible apply q_CallQ); refine CallQ_mk (c_l03Named0 _) ?_) | ((with_reducible intro hb0); revert hb0; with_reducible first | exact zB0 | refine zB fun hb => ?_ | fail) | ((with_reducible apply q_Meet); exact zM) | exact zC | refine zT ?_ | fail))
    · refine ⟨[⟨0, (⟨#[115, 116, 114, 105, 110, 103]⟩ : ByteArray), 0⟩], c3, by simp, hm, one_ok (ok_con (by decide)), ?_⟩
      rcases hlf with ⟨e1, e2⟩ | ⟨e1, e2⟩
      all_goals
        refine FCon.intro PM _ Try.func53 (by kernel_rfl) rfl _ Try.ntmps53 rfl [(8, 7, [2, 7], [(2, 0), (2, 5), (2, 6)], (lin [2, 7] [0, 1, 5, 6, 2, 3, 4])), (10, 8, [2, 8], [(2, 0), (2, 5), (2, 6), (2, 7)], (lin [2, 8] [0, 1, 5, 6, 7, 2, 3, 4]))] (by decide +kernel) (by simp) (by simp) rfl (by first | rfl | simp only [go_sem]) ?_
        (have hWf := WFx.mk (And.intro @e0 <| And.intro @e1 <| And.intro @e2 <| And.intro @e3 <| And.intro @tint0 <| And.intro @tint1 <| And.intro @tint2 <| @tint3); repeat' (first | refine zS ?_ | exact zE | with_reducible apply And.intro | ((with_reducible apply q_CallG); refine CallG_mk (B1) ?_; rintro _ _ ⟨rfl, rfl⟩) | ((with_reducible apply q_CallQ); refine CallQ_mk (B1) ?_) | ((with_reducible apply q_CallG); refine CallG_mk (B2) ?_; rintro _ _ ⟨rfl, rfl⟩) | ((with_reducible apply q_CallQ); refine CallQ_mk (B2) ?_) | ((with_reducible apply q_CallG); refine CallG_mk (B3) ?_; rintro _ _ ⟨rfl, rfl⟩) | ((with_reducible apply q_CallQ); refine CallQ_mk (B3) ?_) | ((with_reducible apply q_CallG); refine zG (c_l03Named0 _) ?_) | ((with_reducible apply q_CallQ); refine CallQ_mk (c_l03Named0 _) ?_) | ((with_reducible intro hb0); revert hb0; with_reducible first | exact zB0 | refine zB fun hb => ?_ | fail) | ((with_reducible apply q_Meet); exact zM) | exact zC | refine zT ?_ | fail))
    · refine ⟨[⟨0, (⟨#[117, 110, 105, 116]⟩ : ByteArray), 0⟩], c3, by simp, hm, one_ok (ok_con (by decide)), ?_⟩
      rcases hlf with ⟨e1, e2⟩ | ⟨e1, e2⟩
      all_goals
        refine FCon.intro PM _ Try.func53 (by kernel_rfl) rfl _ Try.ntmps53 rfl [(8, 7, [2, 7], [(2, 0), (2, 5), (2, 6)], (lin [2, 7] [0, 1, 5, 6, 2, 3, 4])), (10, 8, [2, 8], [(2, 0), (2, 5), (2, 6), (2, 7)], (lin [2, 8] [0, 1, 5, 6, 7, 2, 3, 4]))] (by decide +kernel) (by simp) (by simp) rfl (by first | rfl | simp only [go_sem]) ?_
        (have hWf := WFx.mk (And.intro @e0 <| And.intro @e1 <| And.intro @e2 <| And.intro @e3 <| And.intro @tint0 <| And.intro @tint1 <| And.intro @tint2 <| @tint3); repeat' (first | refine zS ?_ | exact zE | with_reducible apply And.intro | ((with_reducible apply q_CallG); refine CallG_mk (B1) ?_; rintro _ _ ⟨rfl, rfl⟩) | ((with_reducible apply q_CallQ); refine CallQ_mk (B1) ?_) | ((with_reducible apply q_CallG); refine CallG_mk (B2) ?_; rintro _ _ ⟨rfl, rfl⟩) | ((with_reducible apply q_CallQ); refine CallQ_mk (B2) ?_) | ((with_reducible apply q_CallG); refine CallG_mk (B3) ?_; rintro _ _ ⟨rfl, rfl⟩) | ((with_reducible apply q_CallQ); refine CallQ_mk (B3) ?_) | ((with_reducible apply q_CallG); refine zG (c_l03Named0 _) ?_) | ((with_reducible apply q_CallQ); refine CallQ_mk (c_l03Named0 _) ?_) | ((with_reducible intro hb0); revert hb0; with_reducible first | exact zB0 | refine zB fun hb => ?_ | fail) | ((with_reducible apply q_Meet); exact zM) | exact zC | refine zT ?_ | fail))
set_option maxRecDepth 100000 in
set_option maxHeartbeats 8000000 in
theorem d_l04Of : ∀ (f : Nat) (c : Cur) (vars : Int) (deep : Int), f ≤ 5 → 0 < vars → vars ≤ 100 → 5 - deep ≤ f → 0 ≤ deep → deep ≤ 5 → DetOf (2 ^ (f + 1)) c vars deep := by
  intro f
  induction f with
  | zero =>
    intro c vars deep f5 v0 v1 hf d0 d1
    obtain ⟨k, c1, k0, k1, B1⟩ := below_eq' c (n := 9) (by omega) (by omega)
    exact d_leaf 0 c vars deep v0 v1 k c1 B1 (.inl ⟨by simp; omega, trivial⟩)
  | succ f ih =>
    intro c vars deep f5 v0 v1 hf d0 d1
    have hpow : 2 ^ (f + 1) ≤ 2 ^ 6 := Nat.pow_le_pow_right (by decide) (show f + 1 ≤ 6 by omega)
    have h64 : (2 : Nat) ^ 6 = 64 := rfl
    have h21 : (2 : Nat) ^ 1 = 2 := rfl
    have hpow2 : 2 ^ (f + 1 + 1) = 2 ^ (f + 1) * 2 := Nat.pow_succ 2 (f + 1)
    have hpow3 : 2 ^ 1 ≤ 2 ^ (f + 1) := Nat.pow_le_pow_right (by decide) (show 1 ≤ f + 1 from Nat.le_add_left 1 f)
    obtain ⟨k, c1, k0, k1, B1⟩ := below_eq' c (n := 9) (by omega) (by omega)
    by_cases hd : deep > 4
    · exact d_leaf (f + 1) c vars deep v0 v1 k c1 B1 (.inl ⟨by simpa using hd, trivial⟩)
    · have e1 : decide (deep > 4) = false := by simpa using hd
      by_cases hk : k < 3
      · exact d_leaf (f + 1) c vars deep v0 v1 k c1 B1 (.inr ⟨e1, by simpa using hk⟩)
      · have e2 : decide (k < 3) = false := by simpa using hk
        obtain ⟨xs, c2, x0, x1, x2, A⟩ := ih c1 vars (deep + 1) (by omega) v0 v1 (by omega) (by omega) (by omega)
        by_cases hk5 : k < 5
        · have e5 : decide (k < 5) = true := by simpa using hk5
          obtain ⟨q, c3, q0, q1, B3⟩ := below_eq' c2 (n := 3) (by omega) (by omega)
          have hN := fun name => c_l03Named name [⟨xs⟩] (by simp) (by simp; omega)
          have hq : q = 0 ∨ q = 1 ∨ q = 2 := by omega
          rcases hq with rfl | rfl | rfl
          · refine ⟨namedM (⟨#[108, 105, 115, 116]⟩ : ByteArray) [⟨xs⟩], c3, by simp [namedM], by simp [namedM]; omega, named_ok (by decide) (by simp) (by simpa using x2), ?_⟩
            refine FCon.intro PM _ Try.func53 (by kernel_rfl) rfl _ Try.ntmps53 rfl [(8, 7, [2, 7], [(2, 0), (2, 5), (2, 6)], (lin [2, 7] [0, 1, 5, 6, 2, 3, 4])), (10, 8, [2, 8], [(2, 0), (2, 5), (2, 6), (2, 7)], (lin [2, 8] [0, 1, 5, 6, 7, 2, 3, 4]))] (by decide +kernel) (by simp) (by simp) rfl (by first | rfl | simp only [go_sem]) ?_
            iterate 6 (refine AC_go ?_; simp only [go_sem, simprocAttr, e1, e2, e5]; (have hWf := WFx.mk (And.intro @e1 <| And.intro @e2 <| @e5); repeat' (first | refine zY ?_ | with_reducible apply And.intro | ((with_reducible apply q_CallG); refine CallG_mk (B1) ?_; rintro _ _ ⟨rfl, rfl⟩) | ((with_reducible apply q_CallQ); refine CallQ_mk (B1) ?_) | ((with_reducible apply q_CallG); refine CallG_mk (A) ?_; rintro _ _ ⟨rfl, rfl⟩) | ((with_reducible apply q_CallQ); refine CallQ_mk (A) ?_) | ((with_reducible intro hb0); revert hb0; with_reducible first | exact zB0 | refine zB fun hb => ?_ | fail) | ((with_reducible apply q_Meet); exact zM) | exact zC | refine zT ?_ | fail)))
            refine AC_fr 1041 (.arr 31 3 (xs.map TyI.own)) (by simp only [go_sem, simprocAttr]) rfl ?_
            (have hWf := WFx.mk (And.intro @e1 <| And.intro @e2 <| And.intro @e5 <| And.intro @tint0 <| And.intro @tint1 <| And.intro @tint2 <| @TyI.frzS); repeat' (first | refine zS ?_ | exact zE | with_reducible apply And.intro | ((with_reducible apply q_CallE); refine CallE_mk (B3) ?_) | ((with_reducible apply q_CallG); refine CallG_mk (B3) ?_; rintro _ _ ⟨rfl, rfl⟩) | ((with_reducible apply q_CallE); refine CallE_mk (FCon.noout (hN _)) ?_) | ((with_reducible apply q_CallG); refine zG (hN _) ?_) | ((with_reducible intro hb0); revert hb0; with_reducible first | exact zB0 | refine zB fun hb => ?_ | fail) | ((with_reducible apply q_Meet); exact zM) | exact zC | refine zT ?_ | fail))
          · refine ⟨namedM (⟨#[114, 101, 102]⟩ : ByteArray) [⟨xs⟩], c3, by simp [namedM], by simp [namedM]; omega, named_ok (by decide) (by simp) (by simpa using x2), ?_⟩
            refine FCon.intro PM _ Try.func53 (by kernel_rfl) rfl _ Try.ntmps53 rfl [(8, 7, [2, 7], [(2, 0), (2, 5), (2, 6)], (lin [2, 7] [0, 1, 5, 6, 2, 3, 4])), (10, 8, [2, 8], [(2, 0), (2, 5), (2, 6), (2, 7)], (lin [2, 8] [0, 1, 5, 6, 7, 2, 3, 4]))] (by decide +kernel) (by simp) (by simp) rfl (by first | rfl | simp only [go_sem]) ?_
            iterate 6 (refine AC_go ?_; simp only [go_sem, simprocAttr, e1, e2, e5]; (have hWf := WFx.mk (And.intro @e1 <| And.intro @e2 <| @e5); repeat' (first | refine zY ?_ | with_reducible apply And.intro | ((with_reducible apply q_CallG); refine CallG_mk (B1) ?_; rintro _ _ ⟨rfl, rfl⟩) | ((with_reducible apply q_CallQ); refine CallQ_mk (B1) ?_) | ((with_reducible apply q_CallG); refine CallG_mk (A) ?_; rintro _ _ ⟨rfl, rfl⟩) | ((with_reducible apply q_CallQ); refine CallQ_mk (A) ?_) | ((with_reducible intro hb0); revert hb0; with_reducible first | exact zB0 | refine zB fun hb => ?_ | fail) | ((with_reducible apply q_Meet); exact zM) | exact zC | refine zT ?_ | fail)))
            refine AC_fr 1041 (.arr 31 3 (xs.map TyI.own)) (by simp only [go_sem, simprocAttr]) rfl ?_
            (have hWf := WFx.mk (And.intro @e1 <| And.intro @e2 <| And.intro @e5 <| And.intro @tint0 <| And.intro @tint1 <| And.intro @tint2 <| @TyI.frzS); repeat' (first | refine zS ?_ | exact zE | with_reducible apply And.intro | ((with_reducible apply q_CallE); refine CallE_mk (B3) ?_) | ((with_reducible apply q_CallG); refine CallG_mk (B3) ?_; rintro _ _ ⟨rfl, rfl⟩) | ((with_reducible apply q_CallE); refine CallE_mk (FCon.noout (hN _)) ?_) | ((with_reducible apply q_CallG); refine zG (hN _) ?_) | ((with_reducible intro hb0); revert hb0; with_reducible first | exact zB0 | refine zB fun hb => ?_ | fail) | ((with_reducible apply q_Meet); exact zM) | exact zC | refine zT ?_ | fail))
          · refine ⟨namedM (⟨#[116, 114, 101, 101]⟩ : ByteArray) [⟨xs⟩], c3, by simp [namedM], by simp [namedM]; omega, named_ok (by decide) (by simp) (by simpa using x2), ?_⟩
            refine FCon.intro PM _ Try.func53 (by kernel_rfl) rfl _ Try.ntmps53 rfl [(8, 7, [2, 7], [(2, 0), (2, 5), (2, 6)], (lin [2, 7] [0, 1, 5, 6, 2, 3, 4])), (10, 8, [2, 8], [(2, 0), (2, 5), (2, 6), (2, 7)], (lin [2, 8] [0, 1, 5, 6, 7, 2, 3, 4]))] (by decide +kernel) (by simp) (by simp) rfl (by first | rfl | simp only [go_sem]) ?_
            iterate 6 (refine AC_go ?_; simp only [go_sem, simprocAttr, e1, e2, e5]; (have hWf := WFx.mk (And.intro @e1 <| And.intro @e2 <| @e5); repeat' (first | refine zY ?_ | with_reducible apply And.intro | ((with_reducible apply q_CallG); refine CallG_mk (B1) ?_; rintro _ _ ⟨rfl, rfl⟩) | ((with_reducible apply q_CallQ); refine CallQ_mk (B1) ?_) | ((with_reducible apply q_CallG); refine CallG_mk (A) ?_; rintro _ _ ⟨rfl, rfl⟩) | ((with_reducible apply q_CallQ); refine CallQ_mk (A) ?_) | ((with_reducible intro hb0); revert hb0; with_reducible first | exact zB0 | refine zB fun hb => ?_ | fail) | ((with_reducible apply q_Meet); exact zM) | exact zC | refine zT ?_ | fail)))
            refine AC_fr 1041 (.arr 31 3 (xs.map TyI.own)) (by simp only [go_sem, simprocAttr]) rfl ?_
            (have hWf := WFx.mk (And.intro @e1 <| And.intro @e2 <| And.intro @e5 <| And.intro @tint0 <| And.intro @tint1 <| And.intro @tint2 <| @TyI.frzS); repeat' (first | refine zS ?_ | exact zE | with_reducible apply And.intro | ((with_reducible apply q_CallE); refine CallE_mk (B3) ?_) | ((with_reducible apply q_CallG); refine CallG_mk (B3) ?_; rintro _ _ ⟨rfl, rfl⟩) | ((with_reducible apply q_CallE); refine CallE_mk (FCon.noout (hN _)) ?_) | ((with_reducible apply q_CallG); refine zG (hN _) ?_) | ((with_reducible intro hb0); revert hb0; with_reducible first | exact zB0 | refine zB fun hb => ?_ | fail) | ((with_reducible apply q_Meet); exact zM) | exact zC | refine zT ?_ | fail))
        · have e5 : decide (k < 5) = false := by simpa using hk5
          obtain ⟨ys, c4, y0, y1, y2, A2⟩ := ih c2 vars (deep + 1) (by omega) v0 v1 (by omega) (by omega) (by omega)
          obtain ⟨q, c3, q0, q1, B3⟩ := below_eq' c4 (n := 4) (by omega) (by omega)
          have hN := fun name => c_l03Named name [⟨xs⟩, ⟨ys⟩] (by simp) (by simp; omega)
          have hq : q = 0 ∨ q = 1 ∨ q = 2 ∨ q = 3 := by omega
          rcases hq with rfl | rfl | rfl | rfl
          · refine ⟨namedM (⟨#[45, 62]⟩ : ByteArray) [⟨xs⟩, ⟨ys⟩], c3, by simp [namedM], by simp [namedM]; omega, named_ok (by decide) (by simp) (by simp; exact ⟨x2, y2⟩), ?_⟩
            refine FCon.intro PM _ Try.func53 (by kernel_rfl) rfl _ Try.ntmps53 rfl [(8, 7, [2, 7], [(2, 0), (2, 5), (2, 6)], (lin [2, 7] [0, 1, 5, 6, 2, 3, 4])), (10, 8, [2, 8], [(2, 0), (2, 5), (2, 6), (2, 7)], (lin [2, 8] [0, 1, 5, 6, 7, 2, 3, 4]))] (by decide +kernel) (by simp) (by simp) rfl (by first | rfl | simp only [go_sem]) ?_
            iterate 6 (refine AC_go ?_; simp only [go_sem, simprocAttr, e1, e2, e5]; (have hWf := WFx.mk (And.intro @e1 <| And.intro @e2 <| @e5); repeat' (first | refine zY ?_ | with_reducible apply And.intro | ((with_reducible apply q_CallG); refine CallG_mk (B1) ?_; rintro _ _ ⟨rfl, rfl⟩) | ((with_reducible apply q_CallQ); refine CallQ_mk (B1) ?_) | ((with_reducible apply q_CallG); refine CallG_mk (A) ?_; rintro _ _ ⟨rfl, rfl⟩) | ((with_reducible apply q_CallQ); refine CallQ_mk (A) ?_) | ((with_reducible intro hb0); revert hb0; with_reducible first | exact zB0 | refine zB fun hb => ?_ | fail) | ((with_reducible apply q_Meet); exact zM) | exact zC | refine zT ?_ | fail)))
            refine AC_fr 1041 (.arr 31 3 (xs.map TyI.own)) (by simp only [go_sem, simprocAttr]) rfl ?_
            iterate 4 (refine AC_go ?_; simp only [go_sem, simprocAttr, e1, e2, e5, TyI.frzS]; (have hWf := WFx.mk (And.intro @e1 <| And.intro @e2 <| And.intro @e5 <| @TyI.frzS); repeat' (first | refine zY ?_ | with_reducible apply And.intro | ((with_reducible apply q_CallG); refine CallG_mk (A2) ?_; rintro _ _ ⟨rfl, rfl⟩) | ((with_reducible apply q_CallQ); refine CallQ_mk (A2) ?_) | ((with_reducible intro hb0); revert hb0; with_reducible first | exact zB0 | refine zB fun hb => ?_ | fail) | ((with_reducible apply q_Meet); exact zM) | exact zC | refine zT ?_ | fail)))
            refine AC_fr 1056 (.arr 31 3 (ys.map TyI.own)) (by simp only [go_sem, simprocAttr]) rfl ?_
            (have hWf := WFx.mk (And.intro @e1 <| And.intro @e2 <| And.intro @e5 <| And.intro @tint0 <| And.intro @tint1 <| And.intro @tint2 <| And.intro @tint3 <| @TyI.frzS); repeat' (first | refine zS ?_ | exact zE | with_reducible apply And.intro | ((with_reducible apply q_CallE); refine CallE_mk (B3) ?_) | ((with_reducible apply q_CallG); refine CallG_mk (B3) ?_; rintro _ _ ⟨rfl, rfl⟩) | ((with_reducible apply q_CallE); refine CallE_mk (FCon.noout (hN _)) ?_) | ((with_reducible apply q_CallG); refine zG (hN _) ?_) | ((with_reducible intro hb0); revert hb0; with_reducible first | exact zB0 | refine zB fun hb => ?_ | fail) | ((with_reducible apply q_Meet); exact zM) | exact zC | refine zT ?_ | fail))
          · refine ⟨namedM (⟨#[42]⟩ : ByteArray) [⟨xs⟩, ⟨ys⟩], c3, by simp [namedM], by simp [namedM]; omega, named_ok (by decide) (by simp) (by simp; exact ⟨x2, y2⟩), ?_⟩
            refine FCon.intro PM _ Try.func53 (by kernel_rfl) rfl _ Try.ntmps53 rfl [(8, 7, [2, 7], [(2, 0), (2, 5), (2, 6)], (lin [2, 7] [0, 1, 5, 6, 2, 3, 4])), (10, 8, [2, 8], [(2, 0), (2, 5), (2, 6), (2, 7)], (lin [2, 8] [0, 1, 5, 6, 7, 2, 3, 4]))] (by decide +kernel) (by simp) (by simp) rfl (by first | rfl | simp only [go_sem]) ?_
            iterate 6 (refine AC_go ?_; simp only [go_sem, simprocAttr, e1, e2, e5]; (have hWf := WFx.mk (And.intro @e1 <| And.intro @e2 <| @e5); repeat' (first | refine zY ?_ | with_reducible apply And.intro | ((with_reducible apply q_CallG); refine CallG_mk (B1) ?_; rintro _ _ ⟨rfl, rfl⟩) | ((with_reducible apply q_CallQ); refine CallQ_mk (B1) ?_) | ((with_reducible apply q_CallG); refine CallG_mk (A) ?_; rintro _ _ ⟨rfl, rfl⟩) | ((with_reducible apply q_CallQ); refine CallQ_mk (A) ?_) | ((with_reducible intro hb0); revert hb0; with_reducible first | exact zB0 | refine zB fun hb => ?_ | fail) | ((with_reducible apply q_Meet); exact zM) | exact zC | refine zT ?_ | fail)))
            refine AC_fr 1041 (.arr 31 3 (xs.map TyI.own)) (by simp only [go_sem, simprocAttr]) rfl ?_
            iterate 4 (refine AC_go ?_; simp only [go_sem, simprocAttr, e1, e2, e5, TyI.frzS]; (have hWf := WFx.mk (And.intro @e1 <| And.intro @e2 <| And.intro @e5 <| @TyI.frzS); repeat' (first | refine zY ?_ | with_reducible apply And.intro | ((with_reducible apply q_CallG); refine CallG_mk (A2) ?_; rintro _ _ ⟨rfl, rfl⟩) | ((with_reducible apply q_CallQ); refine CallQ_mk (A2) ?_) | ((with_reducible intro hb0); revert hb0; with_reducible first | exact zB0 | refine zB fun hb => ?_ | fail) | ((with_reducible apply q_Meet); exact zM) | exact zC | refine zT ?_ | fail)))
            refine AC_fr 1056 (.arr 31 3 (ys.map TyI.own)) (by simp only [go_sem, simprocAttr]) rfl ?_
            (have hWf := WFx.mk (And.intro @e1 <| And.intro @e2 <| And.intro @e5 <| And.intro @tint0 <| And.intro @tint1 <| And.intro @tint2 <| And.intro @tint3 <| @TyI.frzS); repeat' (first | refine zS ?_ | exact zE | with_reducible apply And.intro | ((with_reducible apply q_CallE); refine CallE_mk (B3) ?_) | ((with_reducible apply q_CallG); refine CallG_mk (B3) ?_; rintro _ _ ⟨rfl, rfl⟩) | ((with_reducible apply q_CallE); refine CallE_mk (FCon.noout (hN _)) ?_) | ((with_reducible apply q_CallG); refine zG (hN _) ?_) | ((with_reducible intro hb0); revert hb0; with_reducible first | exact zB0 | refine zB fun hb => ?_ | fail) | ((with_reducible apply q_Meet); exact zM) | exact zC | refine zT ?_ | fail))
          · refine ⟨namedM (⟨#[45, 62]⟩ : ByteArray) [⟨xs⟩, ⟨ys⟩], c3, by simp [namedM], by simp [namedM]; omega, named_ok (by decide) (by simp) (by simp; exact ⟨x2, y2⟩), ?_⟩
            refine FCon.intro PM _ Try.func53 (by kernel_rfl) rfl _ Try.ntmps53 rfl [(8, 7, [2, 7], [(2, 0), (2, 5), (2, 6)], (lin [2, 7] [0, 1, 5, 6, 2, 3, 4])), (10, 8, [2, 8], [(2, 0), (2, 5), (2, 6), (2, 7)], (lin [2, 8] [0, 1, 5, 6, 7, 2, 3, 4]))] (by decide +kernel) (by simp) (by simp) rfl (by first | rfl | simp only [go_sem]) ?_
            iterate 6 (refine AC_go ?_; simp only [go_sem, simprocAttr, e1, e2, e5]; (have hWf := WFx.mk (And.intro @e1 <| And.intro @e2 <| @e5); repeat' (first | refine zY ?_ | with_reducible apply And.intro | ((with_reducible apply q_CallG); refine CallG_mk (B1) ?_; rintro _ _ ⟨rfl, rfl⟩) | ((with_reducible apply q_CallQ); refine CallQ_mk (B1) ?_) | ((with_reducible apply q_CallG); refine CallG_mk (A) ?_; rintro _ _ ⟨rfl, rfl⟩) | ((with_reducible apply q_CallQ); refine CallQ_mk (A) ?_) | ((with_reducible intro hb0); revert hb0; with_reducible first | exact zB0 | refine zB fun hb => ?_ | fail) | ((with_reducible apply q_Meet); exact zM) | exact zC | refine zT ?_ | fail)))
            refine AC_fr 1041 (.arr 31 3 (xs.map TyI.own)) (by simp only [go_sem, simprocAttr]) rfl ?_
            iterate 4 (refine AC_go ?_; simp only [go_sem, simprocAttr, e1, e2, e5, TyI.frzS]; (have hWf := WFx.mk (And.intro @e1 <| And.intro @e2 <| And.intro @e5 <| @TyI.frzS); repeat' (first | refine zY ?_ | with_reducible apply And.intro | ((with_reducible apply q_CallG); refine CallG_mk (A2) ?_; rintro _ _ ⟨rfl, rfl⟩) | ((with_reducible apply q_CallQ); refine CallQ_mk (A2) ?_) | ((with_reducible intro hb0); revert hb0; with_reducible first | exact zB0 | refine zB fun hb => ?_ | fail) | ((with_reducible apply q_Meet); exact zM) | exact zC | refine zT ?_ | fail)))
            refine AC_fr 1056 (.arr 31 3 (ys.map TyI.own)) (by simp only [go_sem, simprocAttr]) rfl ?_
            (have hWf := WFx.mk (And.intro @e1 <| And.intro @e2 <| And.intro @e5 <| And.intro @tint0 <| And.intro @tint1 <| And.intro @tint2 <| And.intro @tint3 <| @TyI.frzS); repeat' (first | refine zS ?_ | exact zE | with_reducible apply And.intro | ((with_reducible apply q_CallE); refine CallE_mk (B3) ?_) | ((with_reducible apply q_CallG); refine CallG_mk (B3) ?_; rintro _ _ ⟨rfl, rfl⟩) | ((with_reducible apply q_CallE); refine CallE_mk (FCon.noout (hN _)) ?_) | ((with_reducible apply q_CallG); refine zG (hN _) ?_) | ((with_reducible intro hb0); revert hb0; with_reducible first | exact zB0 | refine zB fun hb => ?_ | fail) | ((with_reducible apply q_Meet); exact zM) | exact zC | refine zT ?_ | fail))
          · refine ⟨namedM (⟨#[112, 97, 105, 114]⟩ : ByteArray) [⟨xs⟩, ⟨ys⟩], c3, by simp [namedM], by simp [namedM]; omega, named_ok (by decide) (by simp) (by simp; exact ⟨x2, y2⟩), ?_⟩
            refine FCon.intro PM _ Try.func53 (by kernel_rfl) rfl _ Try.ntmps53 rfl [(8, 7, [2, 7], [(2, 0), (2, 5), (2, 6)], (lin [2, 7] [0, 1, 5, 6, 2, 3, 4])), (10, 8, [2, 8], [(2, 0), (2, 5), (2, 6), (2, 7)], (lin [2, 8] [0, 1, 5, 6, 7, 2, 3, 4]))] (by decide +kernel) (by simp) (by simp) rfl (by first | rfl | simp only [go_sem]) ?_
            iterate 6 (refine AC_go ?_; simp only [go_sem, simprocAttr, e1, e2, e5]; (have hWf := WFx.mk (And.intro @e1 <| And.intro @e2 <| @e5); repeat' (first | refine zY ?_ | with_reducible apply And.intro | ((with_reducible apply q_CallG); refine CallG_mk (B1) ?_; rintro _ _ ⟨rfl, rfl⟩) | ((with_reducible apply q_CallQ); refine CallQ_mk (B1) ?_) | ((with_reducible apply q_CallG); refine CallG_mk (A) ?_; rintro _ _ ⟨rfl, rfl⟩) | ((with_reducible apply q_CallQ); refine CallQ_mk (A) ?_) | ((with_reducible intro hb0); revert hb0; with_reducible first | exact zB0 | refine zB fun hb => ?_ | fail) | ((with_reducible apply q_Meet); exact zM) | exact zC | refine zT ?_ | fail)))
            refine AC_fr 1041 (.arr 31 3 (xs.map TyI.own)) (by simp only [go_sem, simprocAttr]) rfl ?_
            iterate 4 (refine AC_go ?_; simp only [go_sem, simprocAttr, e1, e2, e5, TyI.frzS]; (have hWf := WFx.mk (And.intro @e1 <| And.intro @e2 <| And.intro @e5 <| @TyI.frzS); repeat' (first | refine zY ?_ | with_reducible apply And.intro | ((with_reducible apply q_CallG); refine CallG_mk (A2) ?_; rintro _ _ ⟨rfl, rfl⟩) | ((with_reducible apply q_CallQ); refine CallQ_mk (A2) ?_) | ((with_reducible intro hb0); revert hb0; with_reducible first | exact zB0 | refine zB fun hb => ?_ | fail) | ((with_reducible apply q_Meet); exact zM) | exact zC | refine zT ?_ | fail)))
            refine AC_fr 1056 (.arr 31 3 (ys.map TyI.own)) (by simp only [go_sem, simprocAttr]) rfl ?_
            (have hWf := WFx.mk (And.intro @e1 <| And.intro @e2 <| And.intro @e5 <| And.intro @tint0 <| And.intro @tint1 <| And.intro @tint2 <| And.intro @tint3 <| @TyI.frzS); repeat' (first | refine zS ?_ | exact zE | with_reducible apply And.intro | ((with_reducible apply q_CallE); refine CallE_mk (B3) ?_) | ((with_reducible apply q_CallG); refine CallG_mk (B3) ?_; rintro _ _ ⟨rfl, rfl⟩) | ((with_reducible apply q_CallE); refine CallE_mk (FCon.noout (hN _)) ?_) | ((with_reducible apply q_CallG); refine zG (hN _) ?_) | ((with_reducible intro hb0); revert hb0; with_reducible first | exact zB0 | refine zB fun hb => ?_ | fail) | ((with_reducible apply q_Meet); exact zM) | exact zC | refine zT ?_ | fail))
end Go.Proofs.Ytngobmjdbjlkcaa

/- Two drawn types, over the second engine. -/
namespace Go.Proofs.Ytngobmjdbjlkcaa
set_option linter.unusedVariables false
set_option linter.unusedSimpArgs false
open Go.RowKit
/-- two types, however they are held. -/
def PairR (r : D) : Prop := ∃ xs ys : List TyI, r = .tup [.ag [.sl 3 (xs.map TyI.enc)], .ag [.sl 3 (ys.map TyI.enc)]] ∧ xs.length ≤ 10000 ∧ ys.length ≤ 10000 ∧ (∀ x ∈ xs, x.ok) ∧ (∀ y ∈ ys, y.ok)
theorem putX_bnd {l : List SubM} {B : Nat} (hB : 1 ≤ B) (h : ∀ s ∈ l, s.ty.length ≤ B) : ∀ xs : List TyI, (putX l xs).length ≤ xs.length * B
  | [] => by simp [putX]
  | x :: xs => by
    have ih := putX_bnd hB h xs
    have h1 : (putI l x).length ≤ B := by
      unfold putI
      split
      · split
        · rename_i s hf; exact h s (List.mem_of_find?_eq_some hf)
        · simpa using hB
      · simpa using hB
    have e : putX l (x :: xs) = putI l x ++ putX l xs := by simp [putX]
    rw [e, List.length_append, List.length_cons, Nat.add_mul]; omega
theorem putX_ok {l : List SubM} {xs : List TyI} (h : ∀ s ∈ l, ∀ x ∈ s.ty, x.ok) (hx : ∀ x ∈ xs, x.ok) : ∀ x ∈ putX l xs, x.ok := fun x hm => by
  obtain ⟨y, hy, hxy⟩ := List.mem_flatMap.1 hm
  unfold putI at hxy
  split at hxy
  · split at hxy
    · rename_i s hf; exact h s (List.mem_of_find?_eq_some hf) x hxy
    · simp at hxy; subst hxy; exact hx x hy
  · simp at hxy; subst hxy; exact hx x hy
def starB : ByteArray := ⟨#[42]⟩
set_option maxRecDepth 100000 in
set_option maxHeartbeats 8000000 in
theorem c_l05Two (c : Cur) : FCon Try.prog 50 [c.d] (fun r o => PairR r ∧ ∃ c', o = [Cur.d c']) := by
  obtain ⟨xs, c1, x0, x1, x2, A1⟩ := d_l04Of 5 c 4 0 (by omega) (by omega) (by omega) (by omega) (by omega) (by omega)
  obtain ⟨ys, c2, y0, y1, y2, A2⟩ := d_l04Of 5 c1 4 0 (by omega) (by omega) (by omega) (by omega) (by omega) (by omega)
  have h64 : (2 : Nat) ^ (5 + 1) = 64 := rfl
  rw [h64] at x1 y1
  obtain ⟨k, c3, k0, k1, B⟩ := below_eq' c2 (n := 8) (by omega) (by omega)
  refine (FCon.frz (Rs := fun r o => PairR (frA r) ∧ ∃ c', o = [Cur.d c']) ?_).mono (fun r o ⟨r0, h1, h2⟩ => by rw [h2]; exact h1)
  refine FCon.intro PM _ Try.func50 (by kernel_rfl) rfl _ Try.ntmps50 rfl [(5, 7, [2, 4, 6, 7], [(2, 0), (2, 3), (4, 0), (6, 0)], (lin [2, 4, 6, 7] [0, 1, 3, 2, 4, 5, 6])), (10, 3, [2, 3, 4], [(2, 0)], (lin [2, 3, 4] [0, 1, 2])), (11, 3, [2], [(2, 1)], (lin [2] [0, 1, 2]))] (by decide +kernel) (by simp) (by simp) rfl (by first | rfl | simp only [go_sem]) ?_
  iterate 3 (refine AC_go ?_; simp only [go_sem, simprocAttr]; (have hWf := f0; repeat' (first | refine zY ?_ | with_reducible apply And.intro | ((with_reducible apply q_CallG); refine CallG_mk (A1) ?_; rintro _ _ ⟨rfl, rfl⟩) | ((with_reducible apply q_CallQ); refine CallQ_mk (A1) ?_) | ((with_reducible apply q_CallG); refine CallG_mk (A2) ?_; rintro _ _ ⟨rfl, rfl⟩) | ((with_reducible apply q_CallQ); refine CallQ_mk (A2) ?_) | ((with_reducible intro hb0); revert hb0; with_reducible first | exact zB0 | refine zB fun hb => ?_ | fail) | ((with_reducible apply q_Meet); exact zM) | exact zC | refine zT ?_ | fail)))
  refine AC_fr 1008 (.arr 31 3 (xs.map TyI.own)) (by simp only [go_sem, simprocAttr]) rfl ?_
  refine AC_fr 1010 (.arr 31 3 (ys.map TyI.own)) (by simp only [go_sem, simprocAttr]) rfl ?_
  have hkk : k < 4 ∨ k = 4 ∨ k = 5 ∨ 5 < k := by omega
  rcases hkk with hk | rfl | rfl | hk
  · have e1 : decide (k < 4) = true := by simpa using hk
    have e2 : (k == 4) = false := by simp; omega
    have e3 : (k == 5) = false := by simp; omega
    obtain ⟨v, c4, v0, v1, Bv⟩ := below_eq' c3 (n := 4) (by omega) (by omega)
    obtain ⟨ts, c5, t0, t1, t2, A3⟩ := d_l04Of 3 c4 4 2 (by omega) (by omega) (by omega) (by omega) (by omega) (by omega)
    have h16 : (2 : Nat) ^ (3 + 1) = 16 := rfl
    rw [h16] at t1
    have hb := putX_bnd (l := [⟨v, ts⟩]) (B := 16) (by omega) (by simp; omega) xs
    have hP := c_l05Apply xs [⟨v, ts⟩] (by omega) (by simp) (by simp) (by omega)
    (have hWf := WFx.mk (And.intro @e1 <| And.intro @e2 <| And.intro @e3 <| @TyI.frzS); repeat' (first | refine zS ?_ | exact zE | with_reducible apply And.intro | ((with_reducible apply q_CallG); refine CallG_mk (B) ?_; rintro _ _ ⟨rfl, rfl⟩) | ((with_reducible apply q_CallQ); refine CallQ_mk (B) ?_) | ((with_reducible apply q_CallE); refine CallE_mk (Bv) ?_) | ((with_reducible apply q_CallG); refine CallG_mk (Bv) ?_; rintro _ _ ⟨rfl, rfl⟩) | ((with_reducible apply q_CallE); refine CallE_mk (A3) ?_) | ((with_reducible apply q_CallG); refine CallG_mk (A3) ?_; rintro _ _ ⟨rfl, rfl⟩) | ((with_reducible apply q_CallE); refine CallE_mk (FCon.noout hP) ?_) | ((with_reducible apply q_CallG); refine zG (hP) ?_) | ((with_reducible intro hb0); revert hb0; with_reducible first | exact zB0 | refine zB fun hb => ?_ | fail) | ((with_reducible apply q_Meet); exact zM) | exact zC | refine zT ?_ | fail))
    · exact ⟨xs, _, rfl, by omega, by omega, x2, putX_ok (by simpa using t2) x2⟩
    · exact ⟨c5, rfl⟩
  · (have hWf := WFx.mk @TyI.frzS; repeat' (first | refine zS ?_ | exact zE | with_reducible apply And.intro | ((with_reducible apply q_CallG); refine CallG_mk (B) ?_; rintro _ _ ⟨rfl, rfl⟩) | ((with_reducible apply q_CallQ); refine CallQ_mk (B) ?_) | ((with_reducible apply q_CallG); refine CallG_mk (c_l04AnyTy c3) ?_; rintro _ _ ⟨⟨zs, rfl, z1, z2⟩, c4, rfl⟩) | ((with_reducible apply q_CallQ); refine CallQ_mk (c_l04AnyTy c3) ?_) | ((with_reducible intro hb0); revert hb0; with_reducible first | exact zB0 | refine zB fun hb => ?_ | fail) | ((with_reducible apply q_Meet); exact zM) | exact zC | refine zT ?_ | fail))
    · exact ⟨zs, ys, rfl, by omega, by omega, z2, y2⟩
    · exact ⟨c4, rfl⟩
  · obtain ⟨ts, c5, t0, t1, t2, A3⟩ := d_l04Of 3 c3 4 2 (by omega) (by omega) (by omega) (by omega) (by omega) (by omega)
    have h16 : (2 : Nat) ^ (3 + 1) = 16 := rfl
    rw [h16] at t1
    have hN1 := c_l03Named starB [⟨xs⟩, ⟨ys⟩] (by simp) (by simp; omega)
    have hN2 := c_l03Named starB [⟨ys⟩, ⟨ts⟩] (by simp) (by simp; omega)
    (have hWf := WFx.mk @TyI.frzS; repeat' (first | refine zS ?_ | exact zE | with_reducible apply And.intro | ((with_reducible apply q_CallG); refine CallG_mk (B) ?_; rintro _ _ ⟨rfl, rfl⟩) | ((with_reducible apply q_CallQ); refine CallQ_mk (B) ?_) | ((with_reducible apply q_CallE); refine CallE_mk (A3) ?_) | ((with_reducible apply q_CallG); refine CallG_mk (A3) ?_; rintro _ _ ⟨rfl, rfl⟩) | refine zK (hN1) ?_ | ((with_reducible apply q_CallE); refine CallE_mk (FCon.noout hN2) ?_) | ((with_reducible apply q_CallG); refine zG (hN2) ?_) | ((with_reducible intro hb0); revert hb0; with_reducible first | exact zB0 | refine zB fun hb => ?_ | fail) | ((with_reducible apply q_Meet); exact zM) | exact zC | refine zT ?_ | fail))
    · exact ⟨_, _, rfl, by simp [namedM]; omega, by simp [namedM]; omega, named_ok (by decide) (by simp) (by simp; exact ⟨x2, y2⟩), named_ok (by decide) (by simp) (by simp; exact ⟨y2, t2⟩)⟩
    · exact ⟨c5, rfl⟩
  · have e1 : decide (k < 4) = false := by simp; omega
    have e2 : (k == 4) = false := by simp; omega
    have e3 : (k == 5) = false := by simp; omega
    (have hWf := WFx.mk (And.intro @e1 <| And.intro @e2 <| And.intro @e3 <| @TyI.frzS); repeat' (first | refine zS ?_ | exact zE | with_reducible apply And.intro | ((with_reducible apply q_CallG); refine CallG_mk (B) ?_; rintro _ _ ⟨rfl, rfl⟩) | ((with_reducible apply q_CallQ); refine CallQ_mk (B) ?_) | ((with_reducible intro hb0); revert hb0; with_reducible first | exact zB0 | refine zB fun hb => ?_ | fail) | ((with_reducible apply q_Meet); exact zM) | exact zC | refine zT ?_ | fail))
    · exact ⟨xs, ys, rfl, by omega, by omega, x2, y2⟩
    · exact ⟨c3, rfl⟩
set_option maxRecDepth 100000 in
set_option maxHeartbeats 8000000 in
theorem c_DrawFits (zs : List UInt8) : FCon Try.prog 11 [.sl 1 (zs.map u8E)] (fun r _ => ∃ xs ys : List TyI, r = .tup [.ag [.sl 3 (xs.map TyI.enc)], .ag [.sl 3 (ys.map TyI.enc)]] ∧ xs.length ≤ 200000 ∧ ys.length ≤ 200000 ∧ (∀ x ∈ xs, x.ok) ∧ (∀ y ∈ ys, y.ok)) := by
  refine (FCon.frz (Rs := fun r _ => ∃ xs ys : List TyI, frA r = .tup [.ag [.sl 3 (xs.map TyI.enc)], .ag [.sl 3 (ys.map TyI.enc)]] ∧ xs.length ≤ 200000 ∧ ys.length ≤ 200000 ∧ (∀ x ∈ xs, x.ok) ∧ (∀ y ∈ ys, y.ok)) ?_).mono (fun r o ⟨r0, h1, h2⟩ => by rw [h2]; exact h1)
  refine FCon.intro PM _ Try.func11 (by kernel_rfl) rfl _ Try.ntmps11 rfl [(4, 8, [2, 5, 7, 8], [(2, 0), (2, 4), (5, 0), (5, 3), (7, 0)], (lin [2, 5, 7, 8] [0, 1, 4, 2, 3, 5, 6, 7])), (5, 3, [2], [(2, 1)], (lin [2] [0, 1, 2]))] (by decide +kernel) (by simp) (by simp) rfl (by first | rfl | simp only [go_sem]) ?_
  iterate 3 (refine AC_go ?_; simp only [go_sem, simprocAttr]; (have hWf := f0; repeat' (first | refine zY ?_ | with_reducible apply And.intro | ((with_reducible apply q_CallG); refine CallG_mk (c_l01New zs) ?_; rintro _ _ ⟨h, rfl⟩) | ((with_reducible apply q_CallQ); refine CallQ_mk (c_l01New zs) ?_) | ((with_reducible apply q_CallG); refine CallG_mk (c_l05Two ⟨zs, 0, h⟩) ?_; rintro _ _ ⟨⟨xs, ys, rfl, hx, hy, ox, oy⟩, c, rfl⟩) | ((with_reducible apply q_CallQ); refine CallQ_mk (c_l05Two ⟨zs, 0, h⟩) ?_) | ((with_reducible intro hb0); revert hb0; with_reducible first | exact zB0 | refine zB fun hb => ?_ | fail) | ((with_reducible apply q_Meet); exact zM) | exact zC | refine zT ?_ | fail)))
  obtain ⟨k, c1, k0, k1, B⟩ := below_eq' c (n := 2) (by omega) (by omega)
  by_cases hk : k = 0
  · subst hk
    obtain ⟨ts, c2, t0, t1, t2, A1⟩ := d_l04Of 3 c1 2 2 (by omega) (by omega) (by omega) (by omega) (by omega) (by omega)
    obtain ⟨us, c3, u0, u1, u2, A2⟩ := d_l04Of 3 c2 2 2 (by omega) (by omega) (by omega) (by omega) (by omega) (by omega)
    have h16 : (2 : Nat) ^ (3 + 1) = 16 := rfl
    rw [h16] at t1 u1
    have hb := putX_bnd (l := [⟨0, ts⟩, ⟨1, us⟩]) (B := 16) (by omega) (by simp; omega) xs
    have hP := c_l05Apply xs [⟨0, ts⟩, ⟨1, us⟩] (by omega) (by simp) (by simp) (by omega)
    (have hWf := WFx.mk @TyI.frzS; repeat' (first | refine zS ?_ | exact zE | with_reducible apply And.intro | ((with_reducible apply q_CallG); refine CallG_mk (B) ?_; rintro _ _ ⟨rfl, rfl⟩) | ((with_reducible apply q_CallQ); refine CallQ_mk (B) ?_) | ((with_reducible apply q_CallE); refine CallE_mk (A1) ?_) | ((with_reducible apply q_CallG); refine CallG_mk (A1) ?_; rintro _ _ ⟨rfl, rfl⟩) | ((with_reducible apply q_CallE); refine CallE_mk (A2) ?_) | ((with_reducible apply q_CallG); refine CallG_mk (A2) ?_; rintro _ _ ⟨rfl, rfl⟩) | ((with_reducible apply q_CallE); refine CallE_mk (FCon.noout hP) ?_) | ((with_reducible apply q_CallG); refine zG (hP) ?_) | ((with_reducible intro hb0); revert hb0; with_reducible first | exact zB0 | refine zB fun hb => ?_ | fail) | ((with_reducible apply q_Meet); exact zM) | exact zC | refine zT ?_ | fail))
    all_goals exact ⟨xs, _, rfl, by omega, by omega, ox, putX_ok (by simp; exact ⟨t2, u2⟩) ox⟩
  · have e1 : (k == 0) = false := by simpa using hk
    (have hWf := WFx.mk (And.intro @e1 <| @TyI.frzS); repeat' (first | refine zS ?_ | exact zE | with_reducible apply And.intro | ((with_reducible apply q_CallG); refine CallG_mk (B) ?_; rintro _ _ ⟨rfl, rfl⟩) | ((with_reducible apply q_CallQ); refine CallQ_mk (B) ?_) | ((with_reducible intro hb0); revert hb0; with_reducible first | exact zB0 | refine zB fun hb => ?_ | fail) | ((with_reducible apply q_Meet); exact zM) | exact zC | refine zT ?_ | fail))
    all_goals exact ⟨xs, ys, rfl, by omega, by omega, ox, oy⟩
end Go.Proofs.Ytngobmjdbjlkcaa
