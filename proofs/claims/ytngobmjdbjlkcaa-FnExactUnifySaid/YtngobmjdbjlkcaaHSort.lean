import Derived.Test.YtngobmjdbjlkcaaHVars
import Derived.Test.YtngobmjdbjlkcaaGx
/- Sorted variables of the reference, over the second engine. -/
namespace Go.Proofs.Ytngobmjdbjlkcaa
set_option linter.unusedVariables false
set_option linter.unusedSimpArgs false
open Go.RowKit
attribute [go_sem] frA
set_option maxRecDepth 100000 in
theorem c_l05Has (xs : List Int) (v : Int) : FCon Try.prog 111 [intsD xs, .s (.int .i64 v)] (fun r _ => r = .s (.bool (decide (v ∈ xs)))) := by
  refine FCon.intro PM _ Try.func111 (by kernel_rfl) rfl _ Try.ntmps111 rfl [] (by decide +kernel) (by simp) (by simp) rfl (by first | rfl | simp only [go_sem]) ?_
  refine AC_len 0 rfl trivial fun hlen => ?_
  simp only [List.length_map] at hlen
  (have hWf := f0; repeat' (first | refine zS ?_ | exact zE | with_reducible apply And.intro | ((with_reducible intro hb0); revert hb0; with_reducible first | exact zB0 | refine zB fun hb => ?_ | fail) | ((with_reducible apply q_Meet); exact zM) | exact zC | refine zT ?_ | fail))
  refine AC_loop (fun n σ => ∃ k : Nat, k ≤ xs.length ∧ n = xs.length - k ∧ σ.t 1 = .s (.int .i64 v) ∧ σ.t 7 = intsD xs ∧ σ.t 8 = .s (.int .i64 xs.length) ∧ σ.t 9 = .s (.int .i64 k) ∧ ∀ x ∈ xs.take k, x ≠ v) xs.length ⟨0, by omega, by omega, ?_⟩ ?_
  · simp only [go_sem, simprocAttr, Int.natCast_zero]
    all_goals simp
  · rintro n σ ⟨k, hk, rfl, h1, h7, h8, h9, hno⟩ K' hK
    by_cases hlt : k < xs.length
    · have hx := getD_map iE xs k hlt
      have he := iE_eq xs[k]
      (have hWf := WFx.mk (And.intro @h1 <| And.intro @h7 <| And.intro @h8 <| And.intro @h9 <| And.intro @hx <| @he); repeat' (first | refine zS ?_ | exact zE | with_reducible apply And.intro | ((with_reducible intro hb0); revert hb0; with_reducible first | exact zB0 | refine zB fun hb => ?_ | fail) | ((with_reducible apply q_Meet); exact zM) | exact zC | refine zT ?_ | fail))
      · exact sB (decide_eq_true (by rw [← hb]; exact List.getElem_mem hlt)).symm
      · refine hK (xs.length - (k + 1)) _ (by omega) ⟨k + 1, by omega, rfl, ?_⟩
        simp only [go_sem, simprocAttr, h1, h7, h8, Int.natCast_succ]
        intro x hx
        rw [List.take_succ_eq_append_getElem hlt] at hx
        rcases List.mem_append.1 hx with hx | hx
        · exact hno x hx
        · simp at hx; rw [hx]; exact hb
    · obtain rfl : k = xs.length := by omega
      (have hWf := WFx.mk (And.intro @h1 <| And.intro @h7 <| And.intro @h8 <| @h9); repeat' (first | refine zS ?_ | exact zE | with_reducible apply And.intro | ((with_reducible intro hb0); revert hb0; with_reducible first | exact zB0 | refine zB fun hb => ?_ | fail) | ((with_reducible apply q_Meet); exact zM) | exact zC | refine zT ?_ | fail))
      exact sB (decide_eq_false (fun q => hno v (by simpa using q) rfl)).symm
set_option maxRecDepth 100000 in
set_option maxHeartbeats 1000000 in
theorem c_l05Put (xs : List Int) (v : Int) (hl : xs.length ≤ 1048576) : FCon Try.prog 133 [intsD xs, .s (.int .i64 v)] (fun r _ => r = intsD (putM xs v)) := by
  refine FCon.ice ?_
  refine FCon.intro PM _ Try.func133 (by kernel_rfl) rfl _ Try.ntmps133 rfl [] (by decide +kernel) (by simp) (by simp) rfl (by first | rfl | simp only [go_sem]) ?_
  (have hWf := f0; repeat' (first | refine zS ?_ | exact zE | with_reducible apply And.intro | ((with_reducible intro hb0); revert hb0; with_reducible first | exact zB0 | refine zB fun hb => ?_ | fail) | ((with_reducible apply q_Meet); exact zM) | exact zC | refine zT ?_ | fail))
  refine AC_loop (fun n σ => ∃ k : Nat, k ≤ xs.length ∧ n = xs.length - k ∧ σ.t 0 = intsD xs ∧ σ.t 1 = .s (.int .i64 v) ∧ σ.t 5 = .bs 9 1 (putO xs v k).length ∧ σ.b 9 = some (.arr 3 1 ((putO xs v k).map iE)) ∧ σ.t 6 = .s (.bool (bigB v (xs.take k))) ∧ σ.t 10 = intsD xs ∧ σ.t 11 = .s (.int .i64 xs.length) ∧ σ.t 12 = .s (.int .i64 k) ∧ ∀ x ∈ xs.take k, x ≠ v) xs.length ⟨0, by omega, by omega, ?_⟩ ?_
  · simp only [go_sem, simprocAttr, Int.natCast_zero, putO_zero, List.take_zero, bigB, List.any_nil]
    all_goals simp
  · rintro n σ ⟨k, hk, rfl, h0, h1, h5, h9, h6, h10, h11, h12, hno⟩ K' hK
    have hpl := putO_len xs v k
    by_cases hlt : k < xs.length
    · have hx := getD_map iE xs k hlt
      have he := iE_eq xs[k]
      by_cases hp : xs[k] = v
      · have hp' : (xs[k] == v) = true := by simpa using hp
        (have hWf := WFx.mk (And.intro @h0 <| And.intro @h1 <| And.intro @h5 <| And.intro @h9 <| And.intro @h6 <| And.intro @h10 <| And.intro @h11 <| And.intro @h12 <| And.intro @hx <| And.intro @he <| @hp'); repeat' (first | refine zS ?_ | exact zE | with_reducible apply And.intro | ((with_reducible intro hb0); revert hb0; with_reducible first | exact zB0 | refine zB fun hb => ?_ | fail) | ((with_reducible apply q_Meet); exact zM) | exact zC | refine zT ?_ | fail))
        rw [show putM xs v = xs by unfold putM; rw [if_pos (by rw [← hp]; exact List.getElem_mem hlt)]]
      · have hp' : (xs[k] == v) = false := by simpa using hp
        have hno' : ∀ x ∈ xs.take (k + 1), x ≠ v := by
          intro x hx
          rw [List.take_succ_eq_append_getElem hlt] at hx
          rcases List.mem_append.1 hx with hx | hx
          · exact hno x hx
          · simp at hx; rw [hx]; exact hp
        cases hq : bigB v (xs.take k) with
        | true =>
          obtain ⟨q1, q2⟩ := putO_done xs v k hlt hq
          rw [hq] at h6
          (have hWf := WFx.mk (And.intro @h0 <| And.intro @h1 <| And.intro @h5 <| And.intro @h9 <| And.intro @h6 <| And.intro @h10 <| And.intro @h11 <| And.intro @h12 <| And.intro @hx <| And.intro @he <| @hp'); repeat' (first | refine zS ?_ | exact zE | with_reducible apply And.intro | ((with_reducible intro hb0); revert hb0; with_reducible first | exact zB0 | refine zB fun hb => ?_ | fail) | ((with_reducible apply q_Meet); exact zM) | exact zC | refine zT ?_ | fail))
          refine hK (xs.length - (k + 1)) _ (by omega) ⟨k + 1, by omega, rfl, ?_⟩
          simp only [go_sem, simprocAttr, h0, h1, h5, h9, h6, h10, h11, h12, Int.natCast_succ, q1, q2, List.map_append, iE_eq]
          exact hno'
        | false =>
          rw [hq] at h6
          by_cases hn : v < xs[k]
          · have hn' : decide (v < xs[k]) = true := decide_eq_true hn
            obtain ⟨q1, q2⟩ := putO_now xs v k hlt hq hn
            (have hWf := WFx.mk (And.intro @h0 <| And.intro @h1 <| And.intro @h5 <| And.intro @h9 <| And.intro @h6 <| And.intro @h10 <| And.intro @h11 <| And.intro @h12 <| And.intro @hx <| And.intro @he <| And.intro @hp' <| @hn'); repeat' (first | refine zS ?_ | exact zE | with_reducible apply And.intro | ((with_reducible intro hb0); revert hb0; with_reducible first | exact zB0 | refine zB fun hb => ?_ | fail) | ((with_reducible apply q_Meet); exact zM) | exact zC | refine zT ?_ | fail))
            refine hK (xs.length - (k + 1)) _ (by omega) ⟨k + 1, by omega, rfl, ?_⟩
            simp only [go_sem, simprocAttr, h0, h1, h5, h9, h6, h10, h11, h12, Int.natCast_succ, q1, q2, List.map_append, iE_eq]
            exact hno'
          · have hn' : decide (v < xs[k]) = false := decide_eq_false hn
            obtain ⟨q1, q2⟩ := putO_not xs v k hlt hq hn
            (have hWf := WFx.mk (And.intro @h0 <| And.intro @h1 <| And.intro @h5 <| And.intro @h9 <| And.intro @h6 <| And.intro @h10 <| And.intro @h11 <| And.intro @h12 <| And.intro @hx <| And.intro @he <| And.intro @hp' <| @hn'); repeat' (first | refine zS ?_ | exact zE | with_reducible apply And.intro | ((with_reducible intro hb0); revert hb0; with_reducible first | exact zB0 | refine zB fun hb => ?_ | fail) | ((with_reducible apply q_Meet); exact zM) | exact zC | refine zT ?_ | fail))
            refine hK (xs.length - (k + 1)) _ (by omega) ⟨k + 1, by omega, rfl, ?_⟩
            simp only [go_sem, simprocAttr, h0, h1, h5, h9, h6, h10, h11, h12, Int.natCast_succ, q1, q2, List.map_append, iE_eq]
            exact hno'
    · obtain rfl : k = xs.length := by omega
      have hni : v ∉ xs := fun q => hno v (by simpa using q) rfl
      cases hq : bigB v (xs.take xs.length) with
      | true =>
        rw [hq] at h6
        rw [putM_end1 xs v hni hq]
        (have hWf := WFx.mk (And.intro @h0 <| And.intro @h1 <| And.intro @h5 <| And.intro @h9 <| And.intro @h6 <| And.intro @h10 <| And.intro @h11 <| @h12); repeat' (first | refine zS ?_ | exact zE | with_reducible apply And.intro | ((with_reducible intro hb0); revert hb0; with_reducible first | exact zB0 | refine zB fun hb => ?_ | fail) | ((with_reducible apply q_Meet); exact zM) | exact zC | refine zT ?_ | fail))
      | false =>
        rw [hq] at h6
        rw [putM_end0 xs v hni hq]
        (have hWf := WFx.mk (And.intro @h0 <| And.intro @h1 <| And.intro @h5 <| And.intro @h9 <| And.intro @h6 <| And.intro @h10 <| And.intro @h11 <| @h12); repeat' (first | refine zS ?_ | exact zE | with_reducible apply And.intro | ((with_reducible intro hb0); revert hb0; with_reducible first | exact zB0 | refine zB fun hb => ?_ | fail) | ((with_reducible apply q_Meet); exact zM) | exact zC | refine zT ?_ | fail))
        simp only [intsD, List.map_append, List.map_cons, List.map_nil, iE_eq, frzL, Go.Proofs.Ytngobmjdbjlkcaa.frz]
set_option maxRecDepth 100000 in
set_option maxHeartbeats 1000000 in
theorem c_l05Vars (xs : List TyI) (hl : xs.length ≤ 1048576) : FCon Try.prog 92 [.ag [.sl 3 (xs.map TyI.enc)]] (fun r _ => r = intsD (sortM xs)) := by
  refine FCon.intro PM _ Try.func92 (by kernel_rfl) rfl _ Try.ntmps92 rfl [] (by decide +kernel) (by simp) (by simp) rfl (by first | rfl | simp only [go_sem]) ?_
  (have hWf := f0; repeat' (first | refine zS ?_ | exact zE | with_reducible apply And.intro | ((with_reducible intro hb0); revert hb0; with_reducible first | exact zB0 | refine zB fun hb => ?_ | fail) | ((with_reducible apply q_Meet); exact zM) | exact zC | refine zT ?_ | fail))
  refine ACL_ac (AC_fr 6 (.arr 3 1 []) (by simp only [go_sem, simprocAttr]) rfl (AC_go ?_))
  simp only [go_sem, simprocAttr]
  refine AC_loop (fun n σ => ∃ k : Nat, k ≤ xs.length ∧ n = xs.length - k ∧ σ.t 3 = intsD (sortM (xs.take k)) ∧ σ.t 8 = .sl 3 (xs.map TyI.enc) ∧ σ.t 9 = .s (.int .i64 xs.length) ∧ σ.t 10 = .s (.int .i64 k)) xs.length ⟨0, by omega, by omega, ?_⟩ ?_
  · simp only [go_sem, simprocAttr, Int.natCast_zero, List.take_zero, sortM, List.foldl_nil]
    rfl
  · rintro n σ ⟨k, hk, rfl, h3, h8, h9, h10⟩ K' hK
    by_cases hlt : k < xs.length
    · have hx := getD_map TyI.enc xs k hlt
      have he := TyI.enc_eq xs[k]
      have hvl := sortM_len xs k hk
      have hcc := c_l05Put (sortM (xs.take k)) xs[k].v (by omega)
      have e3 := sortM_take xs k hlt
      unfold sortStep at e3
      by_cases q : varB xs[k] = true
      · have e1 : (xs[k].name.toList == []) = true := by unfold varB at q; simpa using q
        rw [if_pos q] at e3
        (have hWf := WFx.mk (And.intro @h3 <| And.intro @h8 <| And.intro @h9 <| And.intro @h10 <| And.intro @hx <| And.intro @he <| And.intro @lit0 <| @e1); repeat' (first | refine zS ?_ | exact zE | with_reducible apply And.intro | refine zK (hcc) ?_ | ((with_reducible intro hb0); revert hb0; with_reducible first | exact zB0 | refine zB fun hb => ?_ | fail) | ((with_reducible apply q_Meet); exact zM) | exact zC | refine zT ?_ | fail))
        refine hK (xs.length - (k + 1)) _ (by omega) ⟨k + 1, by omega, rfl, ?_⟩
        simp only [go_sem, simprocAttr, h3, h8, h9, h10, Int.natCast_succ, e3]
      · have e1 : (xs[k].name.toList == []) = false := by unfold varB at q; simpa using q
        rw [if_neg q] at e3
        (have hWf := WFx.mk (And.intro @h3 <| And.intro @h8 <| And.intro @h9 <| And.intro @h10 <| And.intro @hx <| And.intro @he <| And.intro @lit0 <| @e1); repeat' (first | refine zS ?_ | exact zE | with_reducible apply And.intro | refine zK (hcc) ?_ | ((with_reducible intro hb0); revert hb0; with_reducible first | exact zB0 | refine zB fun hb => ?_ | fail) | ((with_reducible apply q_Meet); exact zM) | exact zC | refine zT ?_ | fail))
        refine hK (xs.length - (k + 1)) _ (by omega) ⟨k + 1, by omega, rfl, ?_⟩
        simp only [go_sem, simprocAttr, h3, h8, h9, h10, Int.natCast_succ, e3]
    · obtain rfl : k = xs.length := by omega
      rw [List.take_length] at h3
      (have hWf := WFx.mk (And.intro @h3 <| And.intro @h8 <| And.intro @h9 <| @h10); repeat' (first | refine zS ?_ | exact zE | with_reducible apply And.intro | ((with_reducible intro hb0); revert hb0; with_reducible first | exact zB0 | refine zB fun hb => ?_ | fail) | ((with_reducible apply q_Meet); exact zM) | exact zC | refine zT ?_ | fail))
end Go.Proofs.Ytngobmjdbjlkcaa
