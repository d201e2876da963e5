import Derived.Test.YtngobmjdbjlkcaaSuB
/- impl.put, over the second engine. -/
namespace Go.Proofs.Ytngobmjdbjlkcaa
set_option linter.unusedVariables false
set_option linter.unusedSimpArgs false
open Go.RowKit
/-- what stands in an item's place. -/
def putI (l : List SubM) (x : TyI) : List TyI := if varB x = true then (match l.find? (fun s => s.v == x.v) with | some s => s.ty | none => [x]) else [x]
def putX (l : List SubM) (xs : List TyI) : List TyI := xs.flatMap (putI l)
theorem putX_take (l : List SubM) {xs : List TyI} {k : Nat} (h : k < xs.length) : putX l (xs.take (k + 1)) = putX l (xs.take k) ++ putI l xs[k] := by
  unfold putX
  rw [List.take_succ_eq_append_getElem h, List.flatMap_append]; simp
theorem putX_le (l : List SubM) (xs : List TyI) (k : Nat) : (putX l (xs.take k)).length ≤ (putX l xs).length := by
  have : putX l xs = putX l (xs.take k) ++ putX l (xs.drop k) := by unfold putX; rw [← List.flatMap_append, List.take_append_drop]
  rw [this, List.length_append]; omega
theorem fidx_find {α : Type} (p : α → Bool) : ∀ l : List α, (fidx p l = -1 ∧ l.find? p = none) ∨ ∃ (k : Nat) (h : k < l.length), fidx p l = k ∧ l.find? p = some l[k]
  | [] => .inl ⟨rfl, rfl⟩
  | x :: l => by
    cases hp : p x with
    | true => exact .inr ⟨0, by simp, by rw [fidx, if_pos hp]; rfl, by rw [List.find?_cons, hp]; rfl⟩
    | false =>
      have e1 : fidx p (x :: l) = if fidx p l < 0 then -1 else fidx p l + 1 := by rw [fidx, if_neg (by rw [hp]; simp)]
      rcases fidx_find p l with ⟨h1, h2⟩ | ⟨k, h, h1, h2⟩
      · exact .inl ⟨by rw [e1, h1]; rfl, by rw [List.find?_cons, hp]; exact h2⟩
      · refine .inr ⟨k + 1, by simpa using h, ?_, ?_⟩
        · rw [e1, h1, if_neg (by omega)]; push_cast; rfl
        · rw [List.find?_cons, hp]; simpa using h2
set_option maxRecDepth 100000 in
set_option maxHeartbeats 2000000 in
theorem c_put (xs : List TyI) (l : List SubM) (hl : xs.length ≤ 1000000000) (hb0 : (putX l xs).length ≤ 2199023255552) : FCon Try.prog 64 [.sl 3 (xs.map TyI.enc), .sl 2 (l.map SubM.enc)] (fun r _ => r = .osl 31 3 ((putX l xs).map TyI.own)) := by
  refine FCon.intro PM _ Try.func64 (by kernel_rfl) rfl _ Try.ntmps64 rfl [] (by decide +kernel) (by simp) (by simp) rfl (by first | rfl | simp only [go_sem]) ?_
  (have hWf := f0; repeat' (first | refine zS ?_ | exact zE | with_reducible apply And.intro | ((with_reducible intro hb0); revert hb0; with_reducible first | exact zB0 | refine zB fun hb => ?_ | fail) | ((with_reducible apply q_Meet); exact zM) | exact zC | refine zT ?_ | fail))
  refine AC_loop (fun n σ => ∃ k : Nat, k ≤ xs.length ∧ n = xs.length - k ∧ σ.t 1 = .sl 2 (l.map SubM.enc) ∧ σ.t 5 = .bs 9 3 (putX l (xs.take k)).length ∧ σ.b 9 = some (.arr 31 3 ((putX l (xs.take k)).map TyI.own)) ∧ σ.t 10 = .sl 3 (xs.map TyI.enc) ∧ σ.t 11 = .s (.int .i64 xs.length) ∧ σ.t 12 = .s (.int .i64 k)) xs.length ⟨0, by omega, by omega, ?_⟩ ?_
  · simp only [go_sem, simprocAttr, Int.natCast_zero, List.take_zero, putX, List.flatMap_nil]
  · rintro n σ ⟨k, hk, rfl, h1, h5, h9, h10, h11, h12⟩ K' hK
    by_cases hlt : k < xs.length
    · have hx := getD_map TyI.enc xs k hlt
      have he := TyI.enc_eq xs[k]
      have e3 := putX_take l hlt
      have hle := putX_le l xs (k + 1)
      rw [e3, List.length_append] at hle
      by_cases q : varB xs[k] = true
      · have e1 : (xs[k].name.toList == []) = true := by unfold varB at q; simpa using q
        rcases fidx_find (fun s : SubM => s.v == xs[k].v) l with ⟨f1, f2⟩ | ⟨j, hj, f1, f2⟩
        · have e4 : putI l xs[k] = [xs[k]] := by unfold putI; rw [if_pos q, f2]
          rw [e4] at e3 hle
          (have hWf := WFx.mk (And.intro @h1 <| And.intro @h5 <| And.intro @h9 <| And.intro @h10 <| And.intro @h11 <| And.intro @h12 <| And.intro @hx <| And.intro @he <| And.intro @lit0 <| And.intro @e1 <| @f1); repeat' (first | refine zS ?_ | exact zE | with_reducible apply And.intro | refine zK (c_subAt l xs[k].v) ?_ | ((with_reducible intro hb0); revert hb0; with_reducible first | exact zB0 | refine zB fun hb => ?_ | fail) | ((with_reducible apply q_Meet); exact zM) | exact zC | refine zT ?_ | fail))
          refine hK (xs.length - (k + 1)) _ (by omega) ⟨k + 1, by omega, rfl, ?_⟩
          simp only [go_sem, simprocAttr, h1, h5, h9, h10, h11, h12, Int.natCast_succ, e3, List.map_append, TyI.own_eq]
        · have e4 : putI l xs[k] = l[j].ty := by unfold putI; rw [if_pos q, f2]
          rw [e4] at e3 hle
          have hy := getD_map SubM.enc l j hj
          have hey := SubM.enc_eq l[j]
          (have hWf := WFx.mk (And.intro @h1 <| And.intro @h5 <| And.intro @h9 <| And.intro @h10 <| And.intro @h11 <| And.intro @h12 <| And.intro @hx <| And.intro @he <| And.intro @lit0 <| And.intro @e1 <| And.intro @f1 <| And.intro @hy <| @hey); repeat' (first | refine zS ?_ | exact zE | with_reducible apply And.intro | refine zK (c_subAt l xs[k].v) ?_ | ((with_reducible intro hb0); revert hb0; with_reducible first | exact zB0 | refine zB fun hb => ?_ | fail) | ((with_reducible apply q_Meet); exact zM) | exact zC | refine zT ?_ | fail))
          refine hK (xs.length - (k + 1)) _ (by omega) ⟨k + 1, by omega, rfl, ?_⟩
          simp only [go_sem, simprocAttr, h1, h5, h9, h10, h11, h12, Int.natCast_succ, e3, List.map_append, TyI.own_eq]
      · have e1 : (xs[k].name.toList == []) = false := by unfold varB at q; simpa using q
        have e4 : putI l xs[k] = [xs[k]] := by unfold putI; rw [if_neg q]
        rw [e4] at e3 hle
        (have hWf := WFx.mk (And.intro @h1 <| And.intro @h5 <| And.intro @h9 <| And.intro @h10 <| And.intro @h11 <| And.intro @h12 <| And.intro @hx <| And.intro @he <| And.intro @lit0 <| @e1); repeat' (first | refine zS ?_ | exact zE | with_reducible apply And.intro | ((with_reducible intro hb0); revert hb0; with_reducible first | exact zB0 | refine zB fun hb => ?_ | fail) | ((with_reducible apply q_Meet); exact zM) | exact zC | refine zT ?_ | fail))
        refine hK (xs.length - (k + 1)) _ (by omega) ⟨k + 1, by omega, rfl, ?_⟩
        simp only [go_sem, simprocAttr, h1, h5, h9, h10, h11, h12, Int.natCast_succ, e3, List.map_append, TyI.own_eq]
    · obtain rfl : k = xs.length := by omega
      rw [List.take_length] at h5 h9
      (have hWf := WFx.mk (And.intro @h1 <| And.intro @h5 <| And.intro @h9 <| And.intro @h10 <| And.intro @h11 <| @h12); repeat' (first | refine zS ?_ | exact zE | with_reducible apply And.intro | ((with_reducible intro hb0); revert hb0; with_reducible first | exact zB0 | refine zB fun hb => ?_ | fail) | ((with_reducible apply q_Meet); exact zM) | exact zC | refine zT ?_ | fail))
end Go.Proofs.Ytngobmjdbjlkcaa
