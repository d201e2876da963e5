import Derived.Test.YtngobmjdbjlkcaaHa
/- Data Int over the second engine: how they lie, own and lent; copies, sizes, comparisons, marks. Printed by gen2.py. -/
namespace Go.Proofs.Ytngobmjdbjlkcaa
set_option linter.unusedVariables false
set_option linter.unusedSimpArgs false
attribute [local go_sem] List.length_set List.set_set
open Go.RowKit Go.ChangeShapes Go.WideShapes
theorem iE_frz (x : Int) : frzL (iE x) = iE x := rfl
theorem iE_pure (x : Int) : ∀ d ∈ iE x, Pure d := by
  simp only [iE_eq, List.forall_mem_cons, List.not_mem_nil, false_imp_iff, implies_true, and_true]
  exact .s _
theorem iE_pureS (e k : Nat) (xs : List Int) : Pure (.osl e k (xs.map iE)) = True := eq_true (pure_rows iE_pure e k xs)
attribute [go_sem] iE_pureS
theorem iE_frzS (xs : List Int) : frzLL (xs.map iE) = xs.map iE := frz_rows iE_frz xs
attribute [go_sem] iE_frzS
set_option maxRecDepth 100000 in
set_option maxHeartbeats 1000000 in
theorem c_eqIntS (xs : List Int) : FCon Try.prog 40 [.sl 1 (xs.map iE), .sl 1 (xs.map iE)] (fun r _ => r = .s (.bool true)) := by
  refine FCon.intro PM _ Try.func40 (by kernel_rfl) rfl _ Try.ntmps40 rfl [(6, 8, [], [], (lin [] [0, 1, 2, 3, 4, 5, 6, 7]))] (by decide +kernel) (by simp) (by simp) rfl (by first | rfl | simp only [go_sem]) ?_
  refine AC_len 0 rfl trivial fun hlen => ?_
  simp only [List.length_map] at hlen
  (have hWf := f0; repeat' (first | refine zS ?_ | exact zE | with_reducible apply And.intro | ((with_reducible intro hb0); revert hb0; with_reducible first | exact zB0 | refine zB fun hb => ?_ | fail) | ((with_reducible apply q_Meet); exact zM) | exact zC | refine zT ?_ | fail))
  refine AC_loop (fun n σ => ∃ k : Nat, k ≤ xs.length ∧ n = xs.length - k ∧ σ.t 0 = .sl 1 (xs.map iE) ∧ σ.t 1 = .sl 1 (xs.map iE) ∧ σ.t 5 = .s (.int .i64 k)) xs.length ⟨0, by omega, by omega, ?_⟩ ?_
  · simp only [go_sem, simprocAttr, Int.natCast_zero]
  · rintro n σ ⟨k, hk, rfl, h0, h1, h5⟩ K' hK
    by_cases hlt : k < xs.length
    · have hx := getD_map iE xs k hlt
      have he := iE_eq xs[k]
      (have hWf := WFx.mk (And.intro @h0 <| And.intro @h1 <| And.intro @h5 <| And.intro @hx <| @he); repeat' (first | refine zS ?_ | exact zE | with_reducible apply And.intro | ((with_reducible intro hb0); revert hb0; with_reducible first | exact zB0 | refine zB fun hb => ?_ | fail) | ((with_reducible apply q_Meet); exact zM) | exact zC | refine zT ?_ | fail))
      all_goals
        refine hK (xs.length - (k + 1)) _ (by omega) ⟨k + 1, by omega, rfl, ?_⟩
        simp only [go_sem, simprocAttr, h0, h1, h5, Int.natCast_succ]
    · (have hWf := WFx.mk (And.intro @h0 <| And.intro @h1 <| @h5); repeat' (first | refine zS ?_ | exact zE | with_reducible apply And.intro | ((with_reducible intro hb0); revert hb0; with_reducible first | exact zB0 | refine zB fun hb => ?_ | fail) | ((with_reducible apply q_Meet); exact zM) | exact zC | refine zT ?_ | fail))
set_option maxRecDepth 100000 in
set_option maxHeartbeats 1000000 in
theorem c_markIntS (xs : List Int) (hl : xs.length ≤ 1048576) (k : Int) (h0 : 0 ≤ k) (hk : k + cnts (fun _ : Int => 1) xs ≤ 4611686018427387904) : FCon Try.prog 41 [.osl 3 1 (xs.map iE), .s (.int .i64 k)] (fun r o => r = .s (.int .i64 (k + cnts (fun _ : Int => 1) xs)) ∧ o = [.osl 3 1 ((marks (fun _ : Int => 1) (fun k _ => k) k xs).map iE), .un]) := by
  refine FCon.intro PM _ Try.func41 (by kernel_rfl) rfl _ Try.ntmps41 rfl [] (by decide +kernel) (by simp) (by simp) rfl (by first | rfl | simp only [go_sem]) ?_
  (have hWf := f0; repeat' (first | refine zS ?_ | exact zE | with_reducible apply And.intro | ((with_reducible intro hb0); revert hb0; with_reducible first | exact zB0 | refine zB fun hb => ?_ | fail) | ((with_reducible apply q_Meet); exact zM) | exact zC | refine zT ?_ | fail))
  refine AC_loop (fun n σ => ∃ i : Nat, i ≤ xs.length ∧ n = xs.length - i ∧ σ.t 0 = .bs 900000 1 xs.length ∧ σ.t 1 = .s (.int .i64 (k + cnts (fun _ : Int => 1) (xs.take i))) ∧ σ.t 5 = .s (.int .i64 i) ∧ σ.b 900000 = some (.arr 3 1 ((stM (fun _ : Int => 1) (fun k _ => k) k xs i).map iE))) xs.length ⟨0, by omega, by omega, ?_⟩ ?_
  · simp only [go_sem, simprocAttr, Int.natCast_zero, stM_zero, List.take_zero, cnts, Int.add_zero]
  · rintro n σ ⟨i, hi, rfl, h0, h1, h5, h9⟩ K' hK
    by_cases hlt : i < xs.length
    · have hc := cnts_step (c := (fun _ : Int => 1)) hlt
      have hc' := cnts_le (c := (fun _ : Int => 1)) xs (i + 1)
      have hx := stM_get (c := (fun _ : Int => 1)) (m := (fun k _ => k)) k hlt iE
      have hpl := stM_len (c := (fun _ : Int => 1)) (m := (fun k _ => k)) k (Nat.le_of_lt hlt)
      have hst := stM_set (c := (fun _ : Int => 1)) (m := (fun k _ => k)) k hlt iE
      have hgs : ∀ r, (((stM (fun _ : Int => 1) (fun k _ => k) k xs i).map iE).set i r).getD i [] = r := fun r => by rw [List.getD_eq_getElem?_getD, List.getElem?_set_self (by rw [List.length_map, hpl]; exact hlt)]; rfl
      simp only [iE_eq] at hx hst
      (have hWf := WFx.mk (And.intro @h0 <| And.intro @h1 <| And.intro @h5 <| And.intro @h9 <| And.intro @hx <| And.intro @hpl <| And.intro @hgs <| And.intro @hst <| @iE_eq); repeat' (first | refine zS ?_ | exact zE | with_reducible apply And.intro | ((with_reducible intro hb0); revert hb0; with_reducible first | exact zB0 | refine zB fun hb => ?_ | fail) | ((with_reducible apply q_Meet); exact zM) | exact zC | refine zT ?_ | fail))
      refine hK (xs.length - (i + 1)) _ (by omega) ⟨i + 1, by omega, rfl, ?_⟩
      simp only [go_sem, simprocAttr, h0, h1, h5, h9, Int.natCast_succ, hst]
      exact sI_congr (by rw [hc]; push_cast; omega)
    · obtain rfl : i = xs.length := by omega
      rw [stM_all] at h9
      rw [List.take_length] at h1
      (have hWf := WFx.mk (And.intro @h0 <| And.intro @h1 <| And.intro @h5 <| And.intro @h9 <| @marks_len); repeat' (first | refine zS ?_ | exact zE | with_reducible apply And.intro | ((with_reducible intro hb0); revert hb0; with_reducible first | exact zB0 | refine zB fun hb => ?_ | fail) | ((with_reducible apply q_Meet); exact zM) | exact zC | refine zT ?_ | fail))
set_option maxRecDepth 100000 in
set_option maxHeartbeats 1000000 in
theorem c_heldIntS (xs : List Int) (hl : xs.length ≤ 1048576) (k : Int) (h0 : 0 ≤ k) (hk : k + cnts (fun _ : Int => 1) xs ≤ 4611686018427387904) : FCon Try.prog 42 [.sl 1 ((marks (fun _ : Int => 1) (fun k _ => k) k xs).map iE), .s (.int .i64 k)] (fun r _ => r = .s (.int .i64 (k + cnts (fun _ : Int => 1) xs))) := by
  refine FCon.intro PM _ Try.func42 (by kernel_rfl) rfl _ Try.ntmps42 rfl [] (by decide +kernel) (by simp) (by simp) rfl (by first | rfl | simp only [go_sem]) ?_
  have hml := marks_len (c := (fun _ : Int => 1)) (m := (fun k _ => k)) k xs
  (have hWf := f0; repeat' (first | refine zS ?_ | exact zE | with_reducible apply And.intro | ((with_reducible intro hb0); revert hb0; with_reducible first | exact zB0 | refine zB fun hb => ?_ | fail) | ((with_reducible apply q_Meet); exact zM) | exact zC | refine zT ?_ | fail))
  refine AC_loop (fun n σ => ∃ i : Nat, i ≤ xs.length ∧ n = xs.length - i ∧ σ.t 0 = .sl 1 ((marks (fun _ : Int => 1) (fun k _ => k) k xs).map iE) ∧ σ.t 1 = .s (.int .i64 (k + cnts (fun _ : Int => 1) (xs.take i))) ∧ σ.t 5 = .s (.int .i64 i)) xs.length ⟨0, by omega, by omega, ?_⟩ ?_
  · simp only [go_sem, simprocAttr, Int.natCast_zero, List.take_zero, cnts, Int.add_zero]
  · rintro n σ ⟨i, hi, rfl, h0, h1, h5⟩ K' hK
    by_cases hlt : i < xs.length
    · have hc := cnts_step (c := (fun _ : Int => 1)) hlt
      have hc' := cnts_le (c := (fun _ : Int => 1)) xs (i + 1)
      have hx := marks_get (c := (fun _ : Int => 1)) (m := (fun k _ => k)) k hlt iE
      simp only [iE_eq] at hx
      (have hWf := WFx.mk (And.intro @h0 <| And.intro @h1 <| And.intro @h5 <| And.intro @hx <| @hml); repeat' (first | refine zS ?_ | exact zE | with_reducible apply And.intro | ((with_reducible intro hb0); revert hb0; with_reducible first | exact zB0 | refine zB fun hb => ?_ | fail) | ((with_reducible apply q_Meet); exact zM) | exact zC | refine zT ?_ | fail))
      all_goals
        refine hK (xs.length - (i + 1)) _ (by omega) ⟨i + 1, by omega, rfl, ?_⟩
        simp only [go_sem, simprocAttr, h0, h1, h5, Int.natCast_succ]
        exact sI_congr (by rw [hc]; push_cast; omega)
    · obtain rfl : i = xs.length := by omega
      rw [List.take_length] at h1
      (have hWf := WFx.mk (And.intro @h0 <| And.intro @h1 <| And.intro @h5 <| @hml); repeat' (first | refine zS ?_ | exact zE | with_reducible apply And.intro | ((with_reducible intro hb0); revert hb0; with_reducible first | exact zB0 | refine zB fun hb => ?_ | fail) | ((with_reducible apply q_Meet); exact zM) | exact zC | refine zT ?_ | fail))
end Go.Proofs.Ytngobmjdbjlkcaa
