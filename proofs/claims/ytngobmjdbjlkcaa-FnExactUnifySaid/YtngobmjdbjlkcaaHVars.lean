import Derived.Test.YtngobmjdbjlkcaaHTyOk
import Derived.Test.YtngobmjdbjlkcaaVaB
/- Numbers in slices over the second engine: Index, Contains; the variables of a type. -/
namespace Go.Proofs.Ytngobmjdbjlkcaa
set_option linter.unusedVariables false
set_option linter.unusedSimpArgs false
open Go.RowKit
/-- the place of the first that has a property; -1 where there is none. -/
def fidx {α : Type} (p : α → Bool) : List α → Int
  | [] => -1
  | x :: l => if p x = true then 0 else if fidx p l < 0 then -1 else fidx p l + 1
theorem fidx_ge {α : Type} (p : α → Bool) : ∀ (l : List α), -1 ≤ fidx p l
  | [] => by simp [fidx]
  | x :: l => by
    have := fidx_ge p l
    rw [fidx]; split <;> (try split) <;> omega
theorem fidx_at {α : Type} (p : α → Bool) : ∀ (l : List α) (k : Nat) (h : k < l.length), (∀ x ∈ l.take k, p x = false) → p l[k] = true → fidx p l = k
  | x :: l, 0, _, _, hp => by
    have hp : p x = true := hp
    rw [fidx, if_pos hp]; rfl
  | x :: l, k + 1, h, hn, hp => by
    rw [fidx, if_neg (by rw [hn x (by simp)]; simp), fidx_at p l k (by simpa using h) (fun y hy => hn y (by simp [hy])) (by simpa using hp)]
    rw [if_neg (by omega)]; omega
theorem fidx_no {α : Type} (p : α → Bool) : ∀ (l : List α), (∀ x ∈ l, p x = false) → fidx p l = -1
  | [], _ => rfl
  | x :: l, h => by rw [fidx, if_neg (by rw [h x (by simp)]; simp), fidx_no p l (fun y hy => h y (by simp [hy]))]; rfl
theorem fidx_any {α : Type} (p : α → Bool) : ∀ (l : List α), decide (fidx p l ≥ 0) = l.any p
  | [] => rfl
  | x :: l => by
    rw [fidx, List.any_cons, ← fidx_any p l]
    by_cases h : p x = true
    · rw [if_pos h, h]; rfl
    · rw [if_neg h]
      have : p x = false := by simpa using h
      rw [this, Bool.false_or]
      have := fidx_ge p l
      by_cases q : fidx p l < 0
      · rw [if_pos q, decide_eq_false (by omega), decide_eq_false (by omega)]
      · rw [if_neg q, decide_eq_true (by omega), decide_eq_true (by omega)]
set_option maxRecDepth 100000 in
theorem c_Index_int (xs : List Int) (v : Int) : FCon Try.prog 138 [intsD xs, .s (.int .i64 v)] (fun r _ => r = .s (.int .i64 (fidx (fun x => v == x) xs))) := by
  refine FCon.intro PM _ Try.func138 (by kernel_rfl) rfl _ Try.ntmps138 rfl [] (by decide +kernel) (by simp) (by simp) rfl (by first | rfl | simp only [go_sem]) ?_
  refine AC_len 0 rfl trivial fun hlen => ?_
  simp only [List.length_map] at hlen
  (have hWf := f0; repeat' (first | refine zS ?_ | exact zE | with_reducible apply And.intro | ((with_reducible intro hb0); revert hb0; with_reducible first | exact zB0 | refine zB fun hb => ?_ | fail) | ((with_reducible apply q_Meet); exact zM) | exact zC | refine zT ?_ | fail))
  refine AC_loop (fun n σ => ∃ k : Nat, k ≤ xs.length ∧ n = xs.length - k ∧ σ.t 0 = intsD xs ∧ σ.t 1 = .s (.int .i64 v) ∧ σ.t 7 = .s (.int .i64 xs.length) ∧ σ.t 8 = .s (.int .i64 k) ∧ ∀ x ∈ xs.take k, (v == x) = false) xs.length ⟨0, by omega, by omega, ?_⟩ ?_
  · simp only [go_sem, simprocAttr, Int.natCast_zero]
    all_goals simp
  · rintro n σ ⟨k, hk, rfl, h0, h1, h7, h8, hno⟩ K' hK
    by_cases hlt : k < xs.length
    · have hx := getD_map iE xs k hlt
      have he := iE_eq xs[k]
      by_cases hp : v = xs[k]
      · have hp' : (v == xs[k]) = true := by simpa using hp
        (have hWf := WFx.mk (And.intro @h0 <| And.intro @h1 <| And.intro @h7 <| And.intro @h8 <| And.intro @hx <| And.intro @he <| @hp'); repeat' (first | refine zS ?_ | exact zE | with_reducible apply And.intro | ((with_reducible intro hb0); revert hb0; with_reducible first | exact zB0 | refine zB fun hb => ?_ | fail) | ((with_reducible apply q_Meet); exact zM) | exact zC | refine zT ?_ | fail))
        exact sI_congr (by rw [fidx_at (fun x => v == x) xs k hlt hno hp'])
      · have hp' : (v == xs[k]) = false := by simpa using hp
        (have hWf := WFx.mk (And.intro @h0 <| And.intro @h1 <| And.intro @h7 <| And.intro @h8 <| And.intro @hx <| And.intro @he <| @hp'); repeat' (first | refine zS ?_ | exact zE | with_reducible apply And.intro | ((with_reducible intro hb0); revert hb0; with_reducible first | exact zB0 | refine zB fun hb => ?_ | fail) | ((with_reducible apply q_Meet); exact zM) | exact zC | refine zT ?_ | fail))
        refine hK (xs.length - (k + 1)) _ (by omega) ⟨k + 1, by omega, rfl, ?_⟩
        simp only [go_sem, simprocAttr, h0, h1, h7, Int.natCast_succ]
        intro x hx
        rw [List.take_succ_eq_append_getElem hlt] at hx
        rcases List.mem_append.1 hx with hx | hx
        · exact hno x hx
        · simp at hx; rw [hx]; exact hp'
    · obtain rfl : k = xs.length := by omega
      (have hWf := WFx.mk (And.intro @h0 <| And.intro @h1 <| And.intro @h7 <| @h8); repeat' (first | refine zS ?_ | exact zE | with_reducible apply And.intro | ((with_reducible intro hb0); revert hb0; with_reducible first | exact zB0 | refine zB fun hb => ?_ | fail) | ((with_reducible apply q_Meet); exact zM) | exact zC | refine zT ?_ | fail))
      exact sI_congr (by rw [fidx_no (fun x => v == x) xs (by simpa using hno)])
theorem idx_mem (xs : List Int) (v : Int) : decide (fidx (fun x => v == x) xs ≥ 0) = decide (v ∈ xs) := by
  rw [fidx_any, Bool.eq_iff_iff, List.any_eq_true]
  simp
set_option maxRecDepth 100000 in
theorem c_Contains_int (xs : List Int) (v : Int) : FCon Try.prog 134 [intsD xs, .s (.int .i64 v)] (fun r _ => r = .s (.bool (decide (v ∈ xs)))) := by
  refine FCon.intro PM _ Try.func134 (by kernel_rfl) rfl _ Try.ntmps134 rfl [] (by decide +kernel) (by simp) (by simp) rfl (by first | rfl | simp only [go_sem]) ?_
  (have hWf := f0; repeat' (first | refine zS ?_ | exact zE | with_reducible apply And.intro | refine zK (c_Index_int xs v) ?_ | ((with_reducible intro hb0); revert hb0; with_reducible first | exact zB0 | refine zB fun hb => ?_ | fail) | ((with_reducible apply q_Meet); exact zM) | exact zC | refine zT ?_ | fail))
  exact sB (idx_mem xs v)
set_option maxRecDepth 100000 in
theorem c_varsIn (xs : List TyI) (hl : xs.length ≤ 1000000000) : FCon Try.prog 93 [.sl 3 (xs.map TyI.enc)] (fun r _ => r = .osl 3 1 ((varsM xs).map iE)) := by
  refine FCon.intro PM _ Try.func93 (by kernel_rfl) rfl _ Try.ntmps93 rfl [] (by decide +kernel) (by simp) (by simp) rfl (by first | rfl | simp only [go_sem]) ?_
  (have hWf := f0; repeat' (first | refine zS ?_ | exact zE | with_reducible apply And.intro | ((with_reducible intro hb0); revert hb0; with_reducible first | exact zB0 | refine zB fun hb => ?_ | fail) | ((with_reducible apply q_Meet); exact zM) | exact zC | refine zT ?_ | fail))
  refine AC_loop (fun n σ => ∃ k : Nat, k ≤ xs.length ∧ n = xs.length - k ∧ σ.t 3 = .bs 6 1 (varsM (xs.take k)).length ∧ σ.b 6 = some (.arr 3 1 ((varsM (xs.take k)).map iE)) ∧ σ.t 7 = .sl 3 (xs.map TyI.enc) ∧ σ.t 8 = .s (.int .i64 xs.length) ∧ σ.t 9 = .s (.int .i64 k)) xs.length ⟨0, by omega, by omega, ?_⟩ ?_
  · simp only [go_sem, simprocAttr, Int.natCast_zero]
    simp [varsM]
  · rintro n σ ⟨k, hk, rfl, h3, h6, h7, h8, h9⟩ K' hK
    by_cases hlt : k < xs.length
    · have hx := getD_map TyI.enc xs k hlt
      have he := TyI.enc_eq xs[k]
      have hvl := varsM_len xs k hk
      by_cases hb : varB xs[k] = true ∧ xs[k].v ∉ varsM (xs.take k)
      · have e1 : (xs[k].name.toList == []) = true := by have := hb.1; unfold varB at this; simpa using this
        have e2 : decide (xs[k].v ∈ varsM (xs.take k)) = false := decide_eq_false hb.2
        have e3 := varsM_take xs k hlt
        rw [varsStep_new hb.1 hb.2] at e3
        (have hWf := WFx.mk (And.intro @h3 <| And.intro @h6 <| And.intro @h7 <| And.intro @h8 <| And.intro @h9 <| And.intro @hx <| And.intro @he <| And.intro @lit0 <| And.intro @e1 <| @e2); repeat' (first | refine zS ?_ | exact zE | with_reducible apply And.intro | refine zK (c_Contains_int (varsM (xs.take k)) xs[k].v) ?_ | ((with_reducible intro hb0); revert hb0; with_reducible first | exact zB0 | refine zB fun hb => ?_ | fail) | ((with_reducible apply q_Meet); exact zM) | exact zC | refine zT ?_ | fail))
        refine hK (xs.length - (k + 1)) _ (by omega) ⟨k + 1, by omega, rfl, ?_⟩
        simp only [go_sem, simprocAttr, h3, h6, h7, h8, h9, Int.natCast_succ, e3, List.map_append, iE_eq]
      · have e3 := varsM_take xs k hlt
        rw [varsStep_old (fun q => by simpa [q] using hb)] at e3
        by_cases q : varB xs[k] = true
        · have e1 : (xs[k].name.toList == []) = true := by unfold varB at q; simpa using q
          have e2 : decide (xs[k].v ∈ varsM (xs.take k)) = true := by simpa [q] using hb
          (have hWf := WFx.mk (And.intro @h3 <| And.intro @h6 <| And.intro @h7 <| And.intro @h8 <| And.intro @h9 <| And.intro @hx <| And.intro @he <| And.intro @lit0 <| And.intro @e1 <| @e2); repeat' (first | refine zS ?_ | exact zE | with_reducible apply And.intro | refine zK (c_Contains_int (varsM (xs.take k)) xs[k].v) ?_ | ((with_reducible intro hb0); revert hb0; with_reducible first | exact zB0 | refine zB fun hb => ?_ | fail) | ((with_reducible apply q_Meet); exact zM) | exact zC | refine zT ?_ | fail))
          refine hK (xs.length - (k + 1)) _ (by omega) ⟨k + 1, by omega, rfl, ?_⟩
          simp only [go_sem, simprocAttr, h3, h6, h7, h8, h9, Int.natCast_succ, e3]
        · have e1 : (xs[k].name.toList == []) = false := by unfold varB at q; simpa using q
          (have hWf := WFx.mk (And.intro @h3 <| And.intro @h6 <| And.intro @h7 <| And.intro @h8 <| And.intro @h9 <| And.intro @hx <| And.intro @he <| And.intro @lit0 <| @e1); repeat' (first | refine zS ?_ | exact zE | with_reducible apply And.intro | refine zK (c_Contains_int (varsM (xs.take k)) xs[k].v) ?_ | ((with_reducible intro hb0); revert hb0; with_reducible first | exact zB0 | refine zB fun hb => ?_ | fail) | ((with_reducible apply q_Meet); exact zM) | exact zC | refine zT ?_ | fail))
          refine hK (xs.length - (k + 1)) _ (by omega) ⟨k + 1, by omega, rfl, ?_⟩
          simp only [go_sem, simprocAttr, h3, h6, h7, h8, h9, Int.natCast_succ, e3]
    · obtain rfl : k = xs.length := by omega
      rw [List.take_length] at h3 h6
      (have hWf := WFx.mk (And.intro @h3 <| And.intro @h6 <| And.intro @h7 <| And.intro @h8 <| @h9); repeat' (first | refine zS ?_ | exact zE | with_reducible apply And.intro | ((with_reducible intro hb0); revert hb0; with_reducible first | exact zB0 | refine zB fun hb => ?_ | fail) | ((with_reducible apply q_Meet); exact zM) | exact zC | refine zT ?_ | fail))
end Go.Proofs.Ytngobmjdbjlkcaa
