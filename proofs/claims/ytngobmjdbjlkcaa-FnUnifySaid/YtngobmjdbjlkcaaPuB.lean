import Derived.Test.YtngobmjdbjlkcaaSuB
import Derived.Test.YtngobmjdbjlkcaaGn2
/- impl.put, over the second engine. -/
namespace Go.Proofs.Ytngobmjdbjlkcaa
set_option linter.unusedVariables false
set_option linter.unusedSimpArgs false
open Go.RowKit
/-- what stands in an item's place. -/
def putI (l : List SubM) (x : TyI) : List TyI := if varB x = true then (match l.find? (fun s => s.v == x.v) with | some s => s.ty | none => [x]) else [x]
def putX (l : List SubM) (xs : List TyI) : List TyI := xs.flatMap (putI l)
theorem putX_take (l : List SubM) {xs : List TyI} {k : Nat} (h : k < xs.length) : putX l (xs.take (k + 1)) = putX l (xs.take k) ++ putI l xs[k] := by
  unfold putX
  rw [List.take_succ_eq_append_getElem h, List.flatMap_append]; simp
theorem putX_le (l : List SubM) (xs : List TyI) (k : Nat) : (putX l (xs.take k)).length ≤ (putX l xs).length := by
  have : putX l xs = putX l (xs.take k) ++ putX l (xs.drop k) := by unfold putX; rw [← List.flatMap_append, List.take_append_drop]
  rw [this, List.length_append]; omega
theorem fidx_find {α : Type} (p : α → Bool) : ∀ l : List α, (fidx p l = -1 ∧ l.find? p = none) ∨ ∃ (k : Nat) (h : k < l.length), fidx p l = k ∧ l.find? p = some l[k]
  | [] => .inl ⟨rfl, rfl⟩
  | x :: l => by
    cases hp : p x with
    | true => exact .inr ⟨0, by simp, by rw [fidx, if_pos hp]; rfl, by rw [List.find?_cons, hp]; rfl⟩
    | false =>
      have e1 : fidx p (x :: l) = if fidx p l < 0 then -1 else fidx p l + 1 := by rw [fidx, if_neg (by rw [hp]; simp)]
      rcases fidx_find p l with ⟨h1, h2⟩ | ⟨k, h, h1, h2⟩
      · exact .inl ⟨by rw [e1, h1]; rfl, by rw [List.find?_cons, hp]; exact h2⟩
      · refine .inr ⟨k + 1, by simpa using h, ?_, ?_⟩
        · rw [e1, h1, if_neg (by omega)]; push_cast; rfl
        · rw [List.find?_cons, hp]; simpa using h2
set_option maxRecDepth 100000 in
set_option maxHeartbeats 2000000 in
theorem c_put (xs : List TyI) (l : List SubM) (hl : xs.length ≤ 1000000000) (hb0 : (putX l xs).length ≤ 2199023255552) : FCon Try.prog 64 [.sl 3 (xs.map TyI.enc), .sl 2 (l.map SubM.enc)] (fun r _ => r = .osl 31 3 ((putX l xs).map TyI.own)) := by
  refine FCon.intro PM _ Try.func64 (by kernel_rfl) rfl _ Try.ntmps64 rfl [] (by decide +kernel) (by simp) (by simp) rfl (by first | rfl | simp only [go_sem]) ?_
  (have hWf := f0; repeat' (first | refine zS ?_ | exact zE | with_reducible apply And.intro | ((with_reducible intro hb0); revert hb0; with_reducible first | exact zB0 | refine zB fun hb => ?_ | fail) | ((with_reducible apply q_Meet); exact zM) | exact zC | refine zT ?_ | fail))
  refine AC_loop (fun n σ => ∃ k : Nat, k ≤ xs.length ∧ n = xs.length - k ∧ σ.t 1 = .sl 2 (l.map SubM.enc) ∧ σ.t 5 = .bs 9 3 (putX l (xs.take k)).length ∧ σ.b 9 = some (.arr 31 3 ((putX l (xs.take k)).map TyI.own)) ∧ σ.t 10 = .sl 3 (xs.map TyI.enc) ∧ σ.t 11 = .s (.int .i64 xs.length) ∧ σ.t 12 = .s (.int .i64 k)) xs.length ⟨0, by omega, by omega, ?_⟩ ?_
  · simp only [go_sem, simprocAttr, Int.natCast_zero, List.take_zero, putX, List.flatMap_nil]
  · rintro n σ ⟨k, hk, rfl, h1, h5, h9, h10, h11, h12⟩ K' hK
    by_cases hlt : k < xs.length
    · have hx := getD_map TyI.enc xs k hlt
      have he := TyI.enc_eq xs[k]
      have e3 := putX_take l hlt
      have hle := putX_le l xs (k + 1)
      rw [e3, List.length_append] at hle
      by_cases q : varB xs[k] = true
      · have e1 : (xs[k].name.toList == []) = true := by unfold varB at q; simpa using q
        rcases fidx_find (fun s : SubM => s.v == xs[k].v) l with ⟨f1, f2⟩ | ⟨j, hj, f1, f2⟩
        · have e4 : putI l xs[k] = [xs[k]] := by unfold putI; rw [if_pos q, f2]
          rw [e4] at e3 hle
          (have hWf := WFx.mk (And.intro @h1 <| And.intro @h5 <| And.intro @h9 <| And.intro @h10 <| And.intro @h11 <| And.intro @h12 <| And.intro @hx <| And.intro @he <| And.intro @lit0 <| And.intro @e1 <| @f1); repeat' (first | refine zS ?_ | exact zE | with_reducible apply And.intro | refine zK (c_subAt l xs[k].v) ?_ | ((with_reducible intro hb0); revert hb0; with_reducible first | exact zB0 | refine zB fun hb => ?_ | fail) | ((with_reducible apply q_Meet); exact zM) | exact zC | refine zT ?_ | fail))
          refine hK (xs.length - (k + 1)) _ (by omega) ⟨k + 1, by omega, rfl, ?_⟩
          simp only [go_sem, simprocAttr, h1, h5, h9, h10, h11, h12, Int.natCast_succ, e3, List.map_append, TyI.own_eq]
        · have e4 : putI l xs[k] = l[j].ty := by unfold putI; rw [if_pos q, f2]
          rw [e4] at e3 hle
          have hy := getD_map SubM.enc l j hj
          have hey := SubM.enc_eq l[j]
          (have hWf := WFx.mk (And.intro @h1 <| And.intro @h5 <| And.intro @h9 <| And.intro @h10 <| And.intro @h11 <| And.intro @h12 <| And.intro @hx <| And.intro @he <| And.intro @lit0 <| And.intro @e1 <| And.intro @f1 <| And.intro @hy <| @hey); repeat' (first | refine zS ?_ | exact zE | with_reducible apply And.intro | refine zK (c_subAt l xs[k].v) ?_ | ((with_reducible intro hb0); revert hb0; with_reducible first | exact zB0 | refine zB fun hb => ?_ | fail) | ((with_reducible apply q_Meet); exact zM) | exact zC | refine zT ?_ | fail))
          refine hK (xs.length - (k + 1)) _ (by omega) ⟨k + 1, by omega, rfl, ?_⟩
          simp only [go_sem, simprocAttr, h1, h5, h9, h10, h11, h12, Int.natCast_succ, e3, List.map_append, TyI.own_eq]
      · have e1 : (xs[k].name.toList == []) = false := by unfold varB at q; simpa using q
        have e4 : putI l xs[k] = [xs[k]] := by unfold putI; rw [if_neg q]
        rw [e4] at e3 hle
        (have hWf := WFx.mk (And.intro @h1 <| And.intro @h5 <| And.intro @h9 <| And.intro @h10 <| And.intro @h11 <| And.intro @h12 <| And.intro @hx <| And.intro @he <| And.intro @lit0 <| @e1); repeat' (first | refine zS ?_ | exact zE | with_reducible apply And.intro | ((with_reducible intro hb0); revert hb0; with_reducible first | exact zB0 | refine zB fun hb => ?_ | fail) | ((with_reducible apply q_Meet); exact zM) | exact zC | refine zT ?_ | fail))
        refine hK (xs.length - (k + 1)) _ (by omega) ⟨k + 1, by omega, rfl, ?_⟩
        simp only [go_sem, simprocAttr, h1, h5, h9, h10, h11, h12, Int.natCast_succ, e3, List.map_append, TyI.own_eq]
    · obtain rfl : k = xs.length := by omega
      rw [List.take_length] at h5 h9
      (have hWf := WFx.mk (And.intro @h1 <| And.intro @h5 <| And.intro @h9 <| And.intro @h10 <| And.intro @h11 <| @h12); repeat' (first | refine zS ?_ | exact zE | with_reducible apply And.intro | ((with_reducible intro hb0); revert hb0; with_reducible first | exact zB0 | refine zB fun hb => ?_ | fail) | ((with_reducible apply q_Meet); exact zM) | exact zC | refine zT ?_ | fail))
end Go.Proofs.Ytngobmjdbjlkcaa

/- spec.l05Apply and TyPut of both sides, over the second engine. -/
namespace Go.Proofs.Ytngobmjdbjlkcaa
set_option linter.unusedVariables false
set_option linter.unusedSimpArgs false
open Go.RowKit
theorem subs_step {l : List SubM} (h : subsM l = true) {i : Nat} (hi : i + 1 < l.length) : (l[i]'(by omega)).v < l[i + 1].v := by
  unfold subsM at h
  rw [Bool.and_eq_true] at h
  have h1 := List.all_eq_true.1 h.1 (i + 1) (List.mem_range.2 hi)
  rw [subB_at hi, riseB_succ (by omega)] at h1
  simp only [Bool.and_eq_true, Bool.not_eq_true', decide_eq_false_iff_not] at h1
  omega
theorem subs_lt {l : List SubM} (h : subsM l = true) : ∀ (n i : Nat) (hi : i + n + 1 < l.length), (l[i]'(by omega)).v < (l[i + n + 1]'hi).v
  | 0, i, hi => subs_step h hi
  | n + 1, i, hi => Int.lt_trans (subs_lt h n i (by omega)) (subs_step h (i := i + n + 1) (by omega))
theorem subs_pair {l : List SubM} (h : subsM l = true) : l.Pairwise (fun a b => a.v ≠ b.v) := by
  rw [List.pairwise_iff_getElem]
  intro i j hi hj hij
  have := subs_lt h (j - i - 1) i (by omega)
  have e : i + (j - i - 1) + 1 = j := by omega
  simp only [e] at this
  omega
/-- what the reference has laid for an item after j pairs. -/
def accI (l : List SubM) (x : TyI) : List TyI := if varB x = true then (l.filter fun s => s.v == x.v).flatMap SubM.ty else []
def hitI (l : List SubM) (x : TyI) : Bool := varB x && l.any fun s => s.v == x.v
theorem accI_step {l : List SubM} (x : TyI) {j : Nat} (h : j < l.length) : accI (l.take (j + 1)) x = accI (l.take j) x ++ (if (varB x && l[j].v == x.v) = true then l[j].ty else []) := by
  unfold accI
  rw [List.take_succ_eq_append_getElem h, List.filter_append]
  cases varB x <;> cases hq : (l[j].v == x.v) <;> simp [hq]
theorem hitI_step {l : List SubM} (x : TyI) {j : Nat} (h : j < l.length) : hitI (l.take (j + 1)) x = (hitI (l.take j) x || (varB x && l[j].v == x.v)) := by
  unfold hitI
  rw [List.take_succ_eq_append_getElem h, List.any_append]
  cases varB x <;> simp
theorem acc_uniq (v : Int) : ∀ l : List SubM, l.Pairwise (fun a b => a.v ≠ b.v) → (l.filter fun s => s.v == v).flatMap SubM.ty = match l.find? (fun s => s.v == v) with | some s => s.ty | none => []
  | [], _ => rfl
  | s :: l, h => by
    obtain ⟨h1, h2⟩ := List.pairwise_cons.1 h
    cases hq : (s.v == v) with
    | true =>
      have hn : l.filter (fun s => s.v == v) = [] := List.filter_eq_nil_iff.2 fun y hy e => by
        have e1 : y.v = v := by simpa using e
        have e2 : s.v = v := by simpa using hq
        exact h1 y hy (e2.trans e1.symm)
      rw [List.filter_cons, hq, List.find?_cons, hq, if_pos rfl, hn]; simp
    | false => rw [List.filter_cons, hq, List.find?_cons, hq, if_neg (by simp)]; exact acc_uniq v l h2
theorem putI_acc {l : List SubM} (h : l.Pairwise (fun a b => a.v ≠ b.v)) (x : TyI) : putI l x = accI l x ++ (if hitI l x = true then [] else [x]) := by
  unfold putI accI hitI
  cases varB x with
  | false => simp
  | true =>
    rw [if_pos rfl, if_pos rfl, acc_uniq x.v l h]
    cases hf : l.find? (fun s => s.v == x.v) with
    | none =>
      have : (l.any fun s => s.v == x.v) = false := List.any_eq_false.2 fun s hs => by have := List.find?_eq_none.1 hf s hs; simpa using this
      rw [this]; simp
    | some s =>
      have : (l.any fun s => s.v == x.v) = true := List.any_eq_true.2 ⟨s, List.mem_of_find?_eq_some hf, List.find?_some (p := fun s : SubM => s.v == x.v) hf⟩
      rw [this]; simp
theorem accI_le (l : List SubM) (x : TyI) (j : Nat) : (accI (l.take j) x).length ≤ (accI l x).length := by
  have : accI l x = accI (l.take j) x ++ accI (l.drop j) x := by
    unfold accI
    cases varB x with
    | false => simp
    | true => simp only [if_true]; rw [← List.flatMap_append, ← List.filter_append, List.take_append_drop]
  rw [this, List.length_append]; omega
set_option maxRecDepth 100000 in
set_option maxHeartbeats 2000000 in
theorem c_l05Apply (xs : List TyI) (l : List SubM) (hl : xs.length ≤ 1000000000) (hl2 : l.length ≤ 1048576) (hu : l.Pairwise (fun a b => a.v ≠ b.v)) (hb0 : (putX l xs).length ≤ 2199023255552) : FCon Try.prog 52 [.ag [.sl 3 (xs.map TyI.enc)], .sl 2 (l.map SubM.enc)] (fun r _ => r = .ag [.osl 31 3 ((putX l xs).map TyI.own)]) := by
  refine FCon.intro PM _ Try.func52 (by kernel_rfl) rfl _ Try.ntmps52 rfl [] (by decide +kernel) (by simp) (by simp) rfl (by first | rfl | simp only [go_sem]) ?_
  (have hWf := f0; repeat' (first | refine zS ?_ | exact zE | with_reducible apply And.intro | ((with_reducible intro hb0); revert hb0; with_reducible first | exact zB0 | refine zB fun hb => ?_ | fail) | ((with_reducible apply q_Meet); exact zM) | exact zC | refine zT ?_ | fail))
  refine ACL_ac (AC_nil 5 0 99 31 3 (row := [.nil]) (by simp only [go_sem, simprocAttr]) rfl (by decide) (by decide) (AC_go ?_))
  simp only [go_sem, simprocAttr]
  refine AC_loop (fun n σ => ∃ k : Nat, k ≤ xs.length ∧ n = xs.length - k ∧ σ.t 1 = .sl 2 (l.map SubM.enc) ∧ σ.t 4 = .bx 4 0 ∧ σ.b 4 = some (.box [.nil]) ∧ σ.t 5 = .bx 5 0 ∧ σ.b 5 = some (.box [.bs 99 3 (putX l (xs.take k)).length]) ∧ σ.b 99 = some (.arr 31 3 ((putX l (xs.take k)).map TyI.own)) ∧ σ.t 13 = .sl 3 (xs.map TyI.enc) ∧ σ.t 14 = .s (.int .i64 xs.length) ∧ σ.t 15 = .s (.int .i64 k)) xs.length ⟨0, by omega, by omega, ?_⟩ ?_
  · simp only [go_sem, simprocAttr, Int.natCast_zero, List.take_zero, putX, List.flatMap_nil]
    all_goals trace_state
  · rintro n σ ⟨k, hk, rfl, h1, h4, hb4, h5, hb5, hb9, h13, h14, h15⟩ K' hK
    by_cases hlt : k < xs.length
    · have hx := getD_map TyI.enc xs k hlt
      have he := TyI.enc_eq xs[k]
      have e3 := putX_take l hlt
      have hle := putX_le l xs (k + 1)
      rw [putI_acc hu] at e3
      rw [e3, List.length_append, List.length_append] at hle
      have hac := accI_le l xs[k]
      (have hWf := WFx.mk (And.intro @h1 <| And.intro @h4 <| And.intro @hb4 <| And.intro @h5 <| And.intro @hb5 <| And.intro @hb9 <| And.intro @h13 <| And.intro @h14 <| And.intro @h15 <| And.intro @hx <| @he); repeat' (first | refine zS ?_ | exact zE | with_reducible apply And.intro | ((with_reducible intro hb0); revert hb0; with_reducible first | exact zB0 | refine zB fun hb => ?_ | fail) | ((with_reducible apply q_Meet); exact zM) | exact zC | refine zT ?_ | fail))
      refine AC_loop (fun n σ => ∃ j : Nat, j ≤ l.length ∧ n = l.length - j ∧ σ.t 1 = .sl 2 (l.map SubM.enc) ∧ σ.t 4 = .bx 4 0 ∧ σ.b 4 = some (.box [.nil]) ∧ σ.t 5 = .bx 5 0 ∧ σ.b 5 = some (.box [.bs 99 3 ((putX l (xs.take k)).length + (accI (l.take j) xs[k]).length)]) ∧ σ.b 99 = some (.arr 31 3 ((putX l (xs.take k)).map TyI.own ++ (accI (l.take j) xs[k]).map TyI.own)) ∧ σ.t 7 = .bx 7 0 ∧ σ.b 7 = some (.box [.s (.int .i64 xs[k].v), .s (.string xs[k].name), .s (.int .i64 xs[k].ar)]) ∧ σ.t 8 = .s (.bool (hitI (l.take j) xs[k])) ∧ σ.t 13 = .sl 3 (xs.map TyI.enc) ∧ σ.t 14 = .s (.int .i64 xs.length) ∧ σ.t 15 = .s (.int .i64 k) ∧ σ.t 19 = .sl 2 (l.map SubM.enc) ∧ σ.t 20 = .s (.int .i64 l.length) ∧ σ.t 21 = .s (.int .i64 j)) l.length ⟨0, by omega, by omega, ?_⟩ ?_
      · have z1 : accI ([] : List SubM) xs[k] = [] := by unfold accI; simp
        have z2 : hitI ([] : List SubM) xs[k] = false := by unfold hitI; simp
        simp only [go_sem, simprocAttr, h1, h4, hb4, h5, hb5, hb9, h13, h14, h15, Int.natCast_zero, List.take_zero, z1, z2]
        all_goals trace_state
      · rintro n σ ⟨j, hj, rfl, g1, g4, gb4, g5, gb5, gb9, g7, gb7, g8, g13, g14, g15, g19, g20, g21⟩ K'' hK''
        by_cases hltj : j < l.length
        · have gx := getD_map SubM.enc l j hltj
          have ge := SubM.enc_eq l[j]
          have a1 := accI_step xs[k] hltj
          have a2 := hitI_step xs[k] hltj
          have a3 := hac (j + 1)
          have a4 := hac j
          rw [a1, List.length_append] at a3
          by_cases q : varB xs[k] = true
          · have e1 : (xs[k].name.toList == []) = true := by unfold varB at q; simpa using q
            cases q2 : (l[j].v == xs[k].v) with
            | true =>
              rw [q, q2] at a1 a2 a3
              simp only [Bool.and_self, if_true, Bool.or_true] at a1 a2 a3
              (have hWf := WFx.mk (And.intro @g1 <| And.intro @g4 <| And.intro @gb4 <| And.intro @g5 <| And.intro @gb5 <| And.intro @gb9 <| And.intro @g7 <| And.intro @gb7 <| And.intro @g8 <| And.intro @g13 <| And.intro @g14 <| And.intro @g15 <| And.intro @g19 <| And.intro @g20 <| And.intro @g21 <| And.intro @gx <| And.intro @ge <| And.intro @lit0 <| And.intro @e1 <| @q2); repeat' (first | refine zS ?_ | exact zE | with_reducible apply And.intro | ((with_reducible intro hb0); revert hb0; with_reducible first | exact zB0 | refine zB fun hb => ?_ | fail) | ((with_reducible apply q_Meet); exact zM) | exact zC | refine zT ?_ | fail))
              refine hK'' (l.length - (j + 1)) _ (by omega) ⟨j + 1, by omega, rfl, ?_⟩
              simp only [go_sem, simprocAttr, g1, g4, gb4, g5, gb5, gb9, g7, gb7, g8, g13, g14, g15, g19, g20, g21, Int.natCast_succ, a1, a2, List.map_append, List.append_assoc, Nat.add_assoc]
              all_goals trace_state
            | false =>
              rw [q, q2] at a1 a2
              simp only [Bool.and_false, if_false, Bool.or_false, Bool.false_eq_true, List.append_nil] at a1 a2
              (have hWf := WFx.mk (And.intro @g1 <| And.intro @g4 <| And.intro @gb4 <| And.intro @g5 <| And.intro @gb5 <| And.intro @gb9 <| And.intro @g7 <| And.intro @gb7 <| And.intro @g8 <| And.intro @g13 <| And.intro @g14 <| And.intro @g15 <| And.intro @g19 <| And.intro @g20 <| And.intro @g21 <| And.intro @gx <| And.intro @ge <| And.intro @lit0 <| And.intro @e1 <| @q2); repeat' (first | refine zS ?_ | exact zE | with_reducible apply And.intro | ((with_reducible intro hb0); revert hb0; with_reducible first | exact zB0 | refine zB fun hb => ?_ | fail) | ((with_reducible apply q_Meet); exact zM) | exact zC | refine zT ?_ | fail))
              refine hK'' (l.length - (j + 1)) _ (by omega) ⟨j + 1, by omega, rfl, ?_⟩
              simp only [go_sem, simprocAttr, g1, g4, gb4, g5, gb5, gb9, g7, gb7, g8, g13, g14, g15, g19, g20, g21, Int.natCast_succ, a1, a2]
          · have e1 : (xs[k].name.toList == []) = false := by unfold varB at q; simpa using q
            have q' : varB xs[k] = false := by simpa using q
            rw [q'] at a1 a2
            simp only [Bool.false_and, if_false, Bool.or_false, Bool.false_eq_true, List.append_nil] at a1 a2
            (have hWf := WFx.mk (And.intro @g1 <| And.intro @g4 <| And.intro @gb4 <| And.intro @g5 <| And.intro @gb5 <| And.intro @gb9 <| And.intro @g7 <| And.intro @gb7 <| And.intro @g8 <| And.intro @g13 <| And.intro @g14 <| And.intro @g15 <| And.intro @g19 <| And.intro @g20 <| And.intro @g21 <| And.intro @gx <| And.intro @ge <| And.intro @lit0 <| @e1); repeat' (first | refine zS ?_ | exact zE | with_reducible apply And.intro | ((with_reducible intro hb0); revert hb0; with_reducible first | exact zB0 | refine zB fun hb => ?_ | fail) | ((with_reducible apply q_Meet); exact zM) | exact zC | refine zT ?_ | fail))
            refine hK'' (l.length - (j + 1)) _ (by omega) ⟨j + 1, by omega, rfl, ?_⟩
            simp only [go_sem, simprocAttr, g1, g4, gb4, g5, gb5, gb9, g7, gb7, g8, g13, g14, g15, g19, g20, g21, Int.natCast_succ, a1, a2]
        · obtain rfl : j = l.length := by omega
          rw [List.take_length] at gb5 gb9 g8
          cases hh : hitI l xs[k] with
          | true =>
            rw [hh] at g8
            rw [hh, if_pos rfl, List.append_nil] at e3
            (have hWf := WFx.mk (And.intro @g1 <| And.intro @g4 <| And.intro @gb4 <| And.intro @g5 <| And.intro @gb5 <| And.intro @gb9 <| And.intro @g7 <| And.intro @gb7 <| And.intro @g8 <| And.intro @g13 <| And.intro @g14 <| And.intro @g15 <| And.intro @g19 <| And.intro @g20 <| @g21); repeat' (first | refine zS ?_ | exact zE | with_reducible apply And.intro | ((with_reducible intro hb0); revert hb0; with_reducible first | exact zB0 | refine zB fun hb => ?_ | fail) | ((with_reducible apply q_Meet); exact zM) | exact zC | refine zT ?_ | fail))
            refine hK (xs.length - (k + 1)) _ (by omega) ⟨k + 1, by omega, rfl, ?_⟩
            simp only [go_sem, simprocAttr, g1, g4, gb4, g5, gb5, gb9, g7, gb7, g8, g13, g14, g15, Int.natCast_succ, e3, List.map_append]
          | false =>
            rw [hh] at g8
            rw [hh, if_neg (by simp)] at e3 hle
            (have hWf := WFx.mk (And.intro @g1 <| And.intro @g4 <| And.intro @gb4 <| And.intro @g5 <| And.intro @gb5 <| And.intro @gb9 <| And.intro @g7 <| And.intro @gb7 <| And.intro @g8 <| And.intro @g13 <| And.intro @g14 <| And.intro @g15 <| And.intro @g19 <| And.intro @g20 <| @g21); repeat' (first | refine zS ?_ | exact zE | with_reducible apply And.intro | ((with_reducible intro hb0); revert hb0; with_reducible first | exact zB0 | refine zB fun hb => ?_ | fail) | ((with_reducible apply q_Meet); exact zM) | exact zC | refine zT ?_ | fail))
            refine hK (xs.length - (k + 1)) _ (by omega) ⟨k + 1, by omega, rfl, ?_⟩
            simp only [go_sem, simprocAttr, g1, g4, gb4, g5, gb5, gb9, g7, gb7, g8, g13, g14, g15, Int.natCast_succ, e3, List.map_append, TyI.own_eq, List.append_assoc, Nat.add_assoc]
            all_goals trace_state
    · obtain rfl : k = xs.length := by omega
      rw [List.take_length] at hb5 hb9
      (have hWf := WFx.mk (And.intro @h1 <| And.intro @h4 <| And.intro @hb4 <| And.intro @h5 <| And.intro @hb5 <| And.intro @hb9 <| And.intro @h13 <| And.intro @h14 <| @h15); repeat' (first | refine zS ?_ | exact zE | with_reducible apply And.intro | ((with_reducible intro hb0); revert hb0; with_reducible first | exact zB0 | refine zB fun hb => ?_ | fail) | ((with_reducible apply q_Meet); exact zM) | exact zC | refine zT ?_ | fail))
theorem putX_bound {l : List SubM} (h : ∀ s ∈ l, s.ty.length ≤ 1048576) : ∀ xs : List TyI, (putX l xs).length ≤ xs.length * 1048576
  | [] => by simp [putX]
  | x :: xs => by
    have ih := putX_bound h xs
    have h1 : (putI l x).length ≤ 1048576 := by
      unfold putI
      split
      · split
        · rename_i s hf; exact h s (List.mem_of_find?_eq_some hf)
        · simp
      · simp
    have e : putX l (x :: xs) = putI l x ++ putX l xs := by simp [putX]
    rw [e, List.length_append, List.length_cons, Nat.add_mul]; omega
theorem FCon.nilT {P : Program} {f : FuncId} {args : List D} {b : Bool} {e k : Nat} {rows : List (List D)} (h : FCon P f args (fun r _ => r = if b then .tup [.ag [.osl e k rows], .s (.bool true)] else .tup [.ag [.nil], .s (.bool false)])) : FCon P f args (fun r _ => r = .tup [.ag [.osl e k (if b then rows else [])], .s (.bool b)]) := h.wk fun r o e' => by
  subst e'
  cases b with
  | true => exact ⟨_, rfl, fun _ _ _ q => q⟩
  | false =>
    refine ⟨_, rfl, fun g w v q => ?_⟩
    obtain ⟨us, rfl, n1, n2⟩ := q
    refine ⟨us, rfl, by simpa using n1, fun m x u hx hu => ?_⟩
    match m, hx with
    | 0, hx =>
      simp at hx; subst hx
      obtain ⟨vs, rfl, m1, m2⟩ := n2 0 _ u rfl hu
      refine ⟨vs, rfl, by simpa using m1, fun l y z hy hz => ?_⟩
      match l, hy with
      | 0, hy => simp at hy; subst hy; exact Rep.nil_osl _ _ (m2 0 _ z rfl hz)
    | 1, hx => exact n2 1 x u hx hu
def tyPutB (xs : List TyI) (l : List SubM) : Bool := tyOkM xs && (subsM l && decide ((putX l xs).length ≤ 200))
def tyPutM (xs : List TyI) (l : List SubM) : List TyI := if tyPutB xs l = true then putX l xs else []
theorem own_if (b : Bool) (l : List TyI) : (if b = true then l.map TyI.own else []) = (if b = true then l else []).map TyI.own := by cases b <;> rfl
set_option maxRecDepth 100000 in
set_option maxHeartbeats 2000000 in
theorem c_implTyPut (xs : List TyI) (l : List SubM) (ho : ∀ x ∈ xs, x.ok) (hol : ∀ s ∈ l, s.ok) (hl : xs.length ≤ 1048576) (hs : smS SubM.sm l) (hb0 : (putX l xs).length ≤ 2199023255552) : FCon Try.prog 20 [.ag [.sl 3 (xs.map TyI.enc)], .sl 2 (l.map SubM.enc)] (fun r _ => r = .tup [.ag [.osl 31 3 ((tyPutM xs l).map TyI.own)], .s (.bool (tyPutB xs l))]) := by
  unfold tyPutM
  rw [← own_if]
  refine FCon.nilT ?_
  refine FCon.intro PM _ Try.func20 (by kernel_rfl) rfl _ Try.ntmps20 rfl [] (by decide +kernel) (by simp) (by simp) rfl (by first | rfl | simp only [go_sem]) ?_
  (have hWf := f0; repeat' (first | refine zS ?_ | exact zE | with_reducible apply And.intro | refine zK (c_implTyOk xs ho hl) ?_ | refine zK (c_implSubsOk l hol hs) ?_ | ((with_reducible apply q_CallG); refine zG (c_put xs l (by omega) hb0) ?_) | ((with_reducible apply q_CallQ); refine CallQ_mk (c_put xs l (by omega) hb0) ?_) | ((with_reducible intro hb0); revert hb0; with_reducible first | exact zB0 | refine zB fun hb => ?_ | fail) | ((with_reducible apply q_Meet); exact zM) | exact zC | refine zT ?_ | fail))
  · rw [if_neg]; unfold tyPutB; rcases hb with q | q <;> simp [q]
  · rw [if_neg]; unfold tyPutB; simp; omega
  · rw [if_pos]; unfold tyPutB; simp_all; omega
set_option maxRecDepth 100000 in
set_option maxHeartbeats 2000000 in
theorem c_specTyPut (xs : List TyI) (l : List SubM) (ho : ∀ x ∈ xs, x.ok) (hol : ∀ s ∈ l, s.ok) (hl : xs.length ≤ 1048576) (hs : smS SubM.sm l) (hb0 : (putX l xs).length ≤ 2199023255552) : FCon Try.prog 17 [.ag [.sl 3 (xs.map TyI.enc)], .sl 2 (l.map SubM.enc)] (fun r _ => r = .tup [.ag [.osl 31 3 ((tyPutM xs l).map TyI.own)], .s (.bool (tyPutB xs l))]) := by
  unfold tyPutM
  rw [← own_if]
  refine FCon.nilT ?_
  cases hu : subsM l with
  | true =>
    have ha := c_l05Apply xs l (by omega) hs.1 (subs_pair hu) hb0
    refine FCon.intro PM _ Try.func17 (by kernel_rfl) rfl _ Try.ntmps17 rfl [] (by decide +kernel) (by simp) (by simp) rfl (by first | rfl | simp only [go_sem]) ?_
    (have hWf := WFx.mk @hu; repeat' (first | refine zS ?_ | exact zE | with_reducible apply And.intro | refine zK (c_specTyOk xs ho hl) ?_ | refine zK (c_specSubsOk l hol hs) ?_ | refine zK (ha) ?_ | ((with_reducible intro hb0); revert hb0; with_reducible first | exact zB0 | refine zB fun hb => ?_ | fail) | ((with_reducible apply q_Meet); exact zM) | exact zC | refine zT ?_ | fail))
    · rw [if_neg]; unfold tyPutB; simp [hb]
    · rw [if_neg]; unfold tyPutB; simp; omega
    · rw [if_pos]; unfold tyPutB; simp_all; omega
  | false =>
    refine FCon.intro PM _ Try.func17 (by kernel_rfl) rfl _ Try.ntmps17 rfl [] (by decide +kernel) (by simp) (by simp) rfl (by first | rfl | simp only [go_sem]) ?_
    (have hWf := WFx.mk @hu; repeat' (first | refine zS ?_ | exact zE | with_reducible apply And.intro | refine zK (c_specTyOk xs ho hl) ?_ | refine zK (c_specSubsOk l hol hs) ?_ | ((with_reducible intro hb0); revert hb0; with_reducible first | exact zB0 | refine zB fun hb => ?_ | fail) | ((with_reducible apply q_Meet); exact zM) | exact zC | refine zT ?_ | fail))
    all_goals (rw [if_neg]; unfold tyPutB; simp [hu])
end Go.Proofs.Ytngobmjdbjlkcaa
