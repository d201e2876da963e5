import Derived.Test.YtngobmjdbjlkcaaVaB
import Derived.Test.YtngobmjdbjlkcaaHaB
/- When a substitution is right: plain. -/
namespace Go.Proofs.Ytngobmjdbjlkcaa
set_option linter.unusedVariables false
set_option linter.unusedSimpArgs false
/-- the pair ahead of a place has a smaller variable. -/
def riseB (l : List SubM) (i : Nat) (v : Int) : Bool := match i with
  | 0 => true
  | j + 1 => match l[j]? with | some y => !decide (v ≤ y.v) | none => true
def subB (l : List SubM) (i : Nat) : Bool := match l[i]? with
  | none => true
  | some s => (decide (0 ≤ s.v) && decide (s.v ≤ 9999)) && (riseB l i s.v && tyOkM s.ty)
/-- no variable of a type is put away. -/
def clashB (l : List SubM) (xs : List TyI) : Bool := (varsM xs).any fun v => l.any fun s => s.v == v
def crossB (l : List SubM) (i : Nat) : Bool := match l[i]? with
  | none => true
  | some s => !clashB l s.ty
def subsM (l : List SubM) : Bool := (List.range l.length).all (subB l) && (List.range l.length).all (crossB l)
theorem subB_at {l : List SubM} {i : Nat} (h : i < l.length) : subB l i = ((decide (0 ≤ l[i].v) && decide (l[i].v ≤ 9999)) && (riseB l i l[i].v && tyOkM l[i].ty)) := by unfold subB; rw [List.getElem?_eq_getElem h]
theorem crossB_at {l : List SubM} {i : Nat} (h : i < l.length) : crossB l i = !clashB l l[i].ty := by unfold crossB; rw [List.getElem?_eq_getElem h]
theorem range_all {p : Nat → Bool} {n : Nat} (h : ∀ i, i < n → p i = true) : (List.range n).all p = true := by
  rw [List.all_eq_true]
  intro x hx
  exact h x (List.mem_range.1 hx)
theorem range_not {p : Nat → Bool} {n i : Nat} (hi : i < n) (h : p i = false) : (List.range n).all p = false := by
  rw [List.all_eq_false]
  exact ⟨i, List.mem_range.2 hi, by rw [h]; simp⟩
theorem subsM_bad1 {l : List SubM} {i : Nat} (h : i < l.length) (hb : subB l i = false) : subsM l = false := by unfold subsM; rw [range_not h hb]; rfl
theorem subsM_bad2 {l : List SubM} {i : Nat} (h : i < l.length) (hb : crossB l i = false) : subsM l = false := by unfold subsM; rw [range_not h hb]; simp
theorem subsM_good {l : List SubM} (h1 : ∀ i, i < l.length → subB l i = true) (h2 : ∀ i, i < l.length → crossB l i = true) : subsM l = true := by unfold subsM; rw [range_all h1, range_all h2]; rfl
theorem riseB_zero (l : List SubM) (v : Int) : riseB l 0 v = true := rfl
theorem riseB_succ {l : List SubM} {j : Nat} (h : j < l.length) (v : Int) : riseB l (j + 1) v = !decide (v ≤ l[j].v) := by
  show (match l[j]? with | some y => !decide (v ≤ y.v) | none => true) = _
  rw [List.getElem?_eq_getElem h]
theorem clash_sort (l : List SubM) (xs : List TyI) : clashB l xs = l.any fun s => decide (s.v ∈ sortM xs) := by
  unfold clashB
  rw [Bool.eq_iff_iff, List.any_eq_true, List.any_eq_true]
  constructor
  · rintro ⟨v, hv, h⟩
    obtain ⟨s, hs, e⟩ := List.any_eq_true.1 h
    have e' : s.v = v := by simpa using e
    exact ⟨s, hs, decide_eq_true (by rw [e']; exact (sortM_mem xs v).2 hv)⟩
  · rintro ⟨s, hs, h⟩
    exact ⟨s.v, (sortM_mem xs _).1 (of_decide_eq_true h), List.any_eq_true.2 ⟨s, hs, by simp⟩⟩
end Go.Proofs.Ytngobmjdbjlkcaa

/- Closures over substitutions: IndexFunc, ContainsFunc, subAt, over the second engine. -/
namespace Go.Proofs.Ytngobmjdbjlkcaa
set_option linter.unusedVariables false
set_option linter.unusedSimpArgs false
open Go.RowKit
theorem take_no {α : Type} {p : α → Bool} {xs : List α} {k : Nat} (h : k < xs.length) (hno : ∀ x ∈ xs.take k, p x = false) (hk : p xs[k] = false) : ∀ x ∈ xs.take (k + 1), p x = false := by
  intro x hx
  rw [List.take_succ_eq_append_getElem h] at hx
  rcases List.mem_append.1 hx with hx | hx
  · exact hno x hx
  · simp at hx; rw [hx]; exact hk
set_option maxRecDepth 100000 in
theorem c_subAt1 (s : SubM) (v : Int) : FCon Try.prog 106 [.ag s.enc, .pt [.s (.int .i64 v)]] (fun r _ => r = .s (.bool (s.v == v))) := by
  refine FCon.intro PM _ Try.func106 (by kernel_rfl) rfl _ Try.ntmps106 rfl [] (by decide +kernel) (by simp) (by simp) rfl (by first | rfl | simp only [go_sem]) ?_
  (have hWf := WFx.mk @SubM.enc_eq; repeat' (first | refine zS ?_ | exact zE | with_reducible apply And.intro | ((with_reducible intro hb0); revert hb0; with_reducible first | exact zB0 | refine zB fun hb => ?_ | fail) | ((with_reducible apply q_Meet); exact zM) | exact zC | refine zT ?_ | fail))
set_option maxRecDepth 100000 in
theorem c_IndexFunc_Sub (xs : List SubM) (f : FuncId) (caps : List D) (hm : PM.md f = []) (p : SubM → Bool) (hf : ∀ x ∈ xs, FCon Try.prog f (.ag x.enc :: caps) (fun r _ => r = .s (.bool (p x)))) :
    FCon Try.prog 105 [.sl 2 (xs.map SubM.enc), .fn f caps] (fun r _ => r = .s (.int .i64 (fidx p xs))) := by
  refine FCon.intro PM _ Try.func105 (by kernel_rfl) rfl _ Try.ntmps105 rfl [] (by decide +kernel) (by simp) (by simp) rfl (by first | rfl | simp only [go_sem]) ?_
  refine AC_len 0 rfl trivial fun hlen => ?_
  simp only [List.length_map] at hlen
  (have hWf := f0; repeat' (first | refine zS ?_ | exact zE | with_reducible apply And.intro | ((with_reducible intro hb0); revert hb0; with_reducible first | exact zB0 | refine zB fun hb => ?_ | fail) | ((with_reducible apply q_Meet); exact zM) | exact zC | refine zT ?_ | fail))
  refine AC_loop (fun n σ => ∃ k : Nat, k ≤ xs.length ∧ n = xs.length - k ∧ σ.t 0 = .sl 2 (xs.map SubM.enc) ∧ σ.t 1 = .fn f caps ∧ σ.t 7 = .s (.int .i64 xs.length) ∧ σ.t 8 = .s (.int .i64 k) ∧ ∀ x ∈ xs.take k, p x = false) xs.length ⟨0, by omega, by omega, ?_⟩ ?_
  · simp only [go_sem, simprocAttr, Int.natCast_zero]
    all_goals simp
  · rintro n σ ⟨k, hk, rfl, h0, h1, h7, h8, hno⟩ K' hK
    by_cases hlt : k < xs.length
    · have hx := getD_map SubM.enc xs k hlt
      have he := SubM.enc_eq xs[k]
      have hfk := hf xs[k] (List.getElem_mem hlt)
      rw [he] at hfk
      cases hp : p xs[k] with
      | true =>
        rw [hp] at hfk
        (have hWf := WFx.mk (And.intro @h0 <| And.intro @h1 <| And.intro @h7 <| And.intro @h8 <| And.intro @hx <| And.intro @he <| @hm); repeat' (first | refine zS ?_ | exact zE | with_reducible apply And.intro | refine zK (hfk) ?_ | ((with_reducible intro hb0); revert hb0; with_reducible first | exact zB0 | refine zB fun hb => ?_ | fail) | ((with_reducible apply q_Meet); exact zM) | exact zC | refine zT ?_ | fail))
        all_goals exact sI_congr (by rw [fidx_at p xs k hlt hno hp])
      | false =>
        rw [hp] at hfk
        (have hWf := WFx.mk (And.intro @h0 <| And.intro @h1 <| And.intro @h7 <| And.intro @h8 <| And.intro @hx <| And.intro @he <| @hm); repeat' (first | refine zS ?_ | exact zE | with_reducible apply And.intro | refine zK (hfk) ?_ | ((with_reducible intro hb0); revert hb0; with_reducible first | exact zB0 | refine zB fun hb => ?_ | fail) | ((with_reducible apply q_Meet); exact zM) | exact zC | refine zT ?_ | fail))
        refine hK (xs.length - (k + 1)) _ (by omega) ⟨k + 1, by omega, rfl, ?_⟩
        simp only [go_sem, simprocAttr, h0, h1, h7, Int.natCast_succ]
        exact take_no hlt hno hp
    · obtain rfl : k = xs.length := by omega
      (have hWf := WFx.mk (And.intro @h0 <| And.intro @h1 <| And.intro @h7 <| @h8); repeat' (first | refine zS ?_ | exact zE | with_reducible apply And.intro | ((with_reducible intro hb0); revert hb0; with_reducible first | exact zB0 | refine zB fun hb => ?_ | fail) | ((with_reducible apply q_Meet); exact zM) | exact zC | refine zT ?_ | fail))
      exact sI_congr (by rw [fidx_no p xs (by simpa using hno)])
set_option maxRecDepth 100000 in
theorem c_IndexFunc_int (xs : List Int) (f : FuncId) (caps : List D) (hm : PM.md f = []) (p : Int → Bool) (hf : ∀ x ∈ xs, FCon Try.prog f (.s (.int .i64 x) :: caps) (fun r _ => r = .s (.bool (p x)))) :
    FCon Try.prog 137 [intsD xs, .fn f caps] (fun r _ => r = .s (.int .i64 (fidx p xs))) := by
  refine FCon.intro PM _ Try.func137 (by kernel_rfl) rfl _ Try.ntmps137 rfl [] (by decide +kernel) (by simp) (by simp) rfl (by first | rfl | simp only [go_sem]) ?_
  refine AC_len 0 rfl trivial fun hlen => ?_
  simp only [List.length_map] at hlen
  (have hWf := f0; repeat' (first | refine zS ?_ | exact zE | with_reducible apply And.intro | ((with_reducible intro hb0); revert hb0; with_reducible first | exact zB0 | refine zB fun hb => ?_ | fail) | ((with_reducible apply q_Meet); exact zM) | exact zC | refine zT ?_ | fail))
  refine AC_loop (fun n σ => ∃ k : Nat, k ≤ xs.length ∧ n = xs.length - k ∧ σ.t 0 = intsD xs ∧ σ.t 1 = .fn f caps ∧ σ.t 7 = .s (.int .i64 xs.length) ∧ σ.t 8 = .s (.int .i64 k) ∧ ∀ x ∈ xs.take k, p x = false) xs.length ⟨0, by omega, by omega, ?_⟩ ?_
  · simp only [go_sem, simprocAttr, Int.natCast_zero]
    all_goals simp
  · rintro n σ ⟨k, hk, rfl, h0, h1, h7, h8, hno⟩ K' hK
    by_cases hlt : k < xs.length
    · have hx := getD_map iE xs k hlt
      have he := iE_eq xs[k]
      have hfk := hf xs[k] (List.getElem_mem hlt)
      cases hp : p xs[k] with
      | true =>
        rw [hp] at hfk
        (have hWf := WFx.mk (And.intro @h0 <| And.intro @h1 <| And.intro @h7 <| And.intro @h8 <| And.intro @hx <| And.intro @he <| @hm); repeat' (first | refine zS ?_ | exact zE | with_reducible apply And.intro | refine zK (hfk) ?_ | ((with_reducible intro hb0); revert hb0; with_reducible first | exact zB0 | refine zB fun hb => ?_ | fail) | ((with_reducible apply q_Meet); exact zM) | exact zC | refine zT ?_ | fail))
        all_goals exact sI_congr (by rw [fidx_at p xs k hlt hno hp])
      | false =>
        rw [hp] at hfk
        (have hWf := WFx.mk (And.intro @h0 <| And.intro @h1 <| And.intro @h7 <| And.intro @h8 <| And.intro @hx <| And.intro @he <| @hm); repeat' (first | refine zS ?_ | exact zE | with_reducible apply And.intro | refine zK (hfk) ?_ | ((with_reducible intro hb0); revert hb0; with_reducible first | exact zB0 | refine zB fun hb => ?_ | fail) | ((with_reducible apply q_Meet); exact zM) | exact zC | refine zT ?_ | fail))
        refine hK (xs.length - (k + 1)) _ (by omega) ⟨k + 1, by omega, rfl, ?_⟩
        simp only [go_sem, simprocAttr, h0, h1, h7, Int.natCast_succ]
        exact take_no hlt hno hp
    · obtain rfl : k = xs.length := by omega
      (have hWf := WFx.mk (And.intro @h0 <| And.intro @h1 <| And.intro @h7 <| @h8); repeat' (first | refine zS ?_ | exact zE | with_reducible apply And.intro | ((with_reducible intro hb0); revert hb0; with_reducible first | exact zB0 | refine zB fun hb => ?_ | fail) | ((with_reducible apply q_Meet); exact zM) | exact zC | refine zT ?_ | fail))
      exact sI_congr (by rw [fidx_no p xs (by simpa using hno)])
set_option maxRecDepth 100000 in
theorem c_ContainsFunc_int (xs : List Int) (f : FuncId) (caps : List D) (hm : PM.md f = []) (p : Int → Bool) (hf : ∀ x ∈ xs, FCon Try.prog f (.s (.int .i64 x) :: caps) (fun r _ => r = .s (.bool (p x)))) :
    FCon Try.prog 97 [intsD xs, .fn f caps] (fun r _ => r = .s (.bool (xs.any p))) := by
  refine FCon.intro PM _ Try.func97 (by kernel_rfl) rfl _ Try.ntmps97 rfl [] (by decide +kernel) (by simp) (by simp) rfl (by first | rfl | simp only [go_sem]) ?_
  (have hWf := f0; repeat' (first | refine zS ?_ | exact zE | with_reducible apply And.intro | refine zK (c_IndexFunc_int xs f caps hm p hf) ?_ | ((with_reducible intro hb0); revert hb0; with_reducible first | exact zB0 | refine zB fun hb => ?_ | fail) | ((with_reducible apply q_Meet); exact zM) | exact zC | refine zT ?_ | fail))
  exact sB (fidx_any p xs)
set_option maxRecDepth 100000 in
theorem c_subAt (l : List SubM) (v : Int) : FCon Try.prog 55 [.sl 2 (l.map SubM.enc), .s (.int .i64 v)] (fun r _ => r = .s (.int .i64 (fidx (fun s => s.v == v) l))) := by
  refine FCon.intro PM _ Try.func55 (by kernel_rfl) rfl _ Try.ntmps55 rfl [] (by decide +kernel) (by simp) (by simp) rfl (by first | rfl | simp only [go_sem]) ?_
  (refine AC_go ?_; simp only [go_sem, simprocAttr]; (have hWf := f0; repeat' (first | refine zY ?_ | with_reducible apply And.intro | ((with_reducible intro hb0); revert hb0; with_reducible first | exact zB0 | refine zB fun hb => ?_ | fail) | ((with_reducible apply q_Meet); exact zM) | exact zC | refine zT ?_ | fail)))
  refine AC_fr 3 (.box [.s (.int .i64 v)]) (by simp only [go_sem, simprocAttr]) rfl ?_
  (have hWf := f0; repeat' (first | refine zS ?_ | exact zE | with_reducible apply And.intro | ((with_reducible apply q_CallG); refine zG (c_IndexFunc_Sub l _ [.pt [.s (.int .i64 v)]] rfl (fun s => s.v == v) (fun s _ => c_subAt1 s v)) ?_) | ((with_reducible apply q_CallQ); refine CallQ_mk (c_IndexFunc_Sub l _ [.pt [.s (.int .i64 v)]] rfl (fun s => s.v == v) (fun s _ => c_subAt1 s v)) ?_) | ((with_reducible intro hb0); revert hb0; with_reducible first | exact zB0 | refine zB fun hb => ?_ | fail) | ((with_reducible apply q_Meet); exact zM) | exact zC | refine zT ?_ | fail))
set_option maxRecDepth 100000 in
theorem c_SubsOk1 (l : List SubM) (v : Int) : FCon Try.prog 98 [.s (.int .i64 v), .pt [.sl 2 (l.map SubM.enc)]] (fun r _ => r = .s (.bool (l.any fun s => s.v == v))) := by
  refine FCon.intro PM _ Try.func98 (by kernel_rfl) rfl _ Try.ntmps98 rfl [] (by decide +kernel) (by simp) (by simp) rfl (by first | rfl | simp only [go_sem]) ?_
  (have hWf := f0; repeat' (first | refine zS ?_ | exact zE | with_reducible apply And.intro | refine zK (c_subAt l v) ?_ | ((with_reducible intro hb0); revert hb0; with_reducible first | exact zB0 | refine zB fun hb => ?_ | fail) | ((with_reducible apply q_Meet); exact zM) | exact zC | refine zT ?_ | fail))
  exact sB (fidx_any _ _)
end Go.Proofs.Ytngobmjdbjlkcaa

/- SubsOk of both sides, over the second engine. -/
namespace Go.Proofs.Ytngobmjdbjlkcaa
set_option linter.unusedVariables false
set_option linter.unusedSimpArgs false
open Go.RowKit
theorem riseB_eq {l : List SubM} {k : Nat} (h : k < l.length) (v : Int) : riseB l k v = !(decide ((k : Int) > 0) && decide ((l[k - 1]'(by omega)).v ≥ v)) := by
  cases k with
  | zero => rfl
  | succ j =>
    rw [riseB_succ (by omega)]
    have : ((j + 1 : Nat) : Int) > 0 := by omega
    rw [decide_eq_true this, Bool.true_and]; rfl
theorem subB_eq {l : List SubM} {k : Nat} (h : k < l.length) : subB l k = !(!(decide (0 ≤ l[k].v) && decide (l[k].v ≤ 9999)) || decide ((k : Int) > 0) && decide ((l[k - 1]'(by omega)).v ≥ l[k].v) || !tyOkM l[k].ty) := by
  rw [subB_at h, riseB_eq h]
  cases decide (0 ≤ l[k].v) <;> cases decide (l[k].v ≤ 9999) <;> cases decide ((k : Int) > 0) <;> cases decide ((l[k - 1]'(by omega)).v ≥ l[k].v) <;> cases tyOkM l[k].ty <;> rfl
theorem subB_lt {l : List SubM} {k : Nat} (h : k < l.length) : subB l k = !(decide (l[k].v < 0) || decide (9999 < l[k].v) || decide (0 < (k : Int)) && decide (l[k].v ≤ (l[k - 1]'(by omega)).v) || !tyOkM l[k].ty) := by
  rw [subB_eq h]
  have h1 : decide (0 ≤ l[k].v) = !decide (l[k].v < 0) := by rw [Bool.eq_iff_iff]; simp
  have h2 : decide (l[k].v ≤ 9999) = !decide (9999 < l[k].v) := by rw [Bool.eq_iff_iff]; simp
  rw [h1, h2]
  show (!(!(!decide (l[k].v < 0) && !decide (9999 < l[k].v)) || decide (0 < (k : Int)) && decide (l[k].v ≤ (l[k - 1]'(by omega)).v) || !tyOkM l[k].ty)) = _
  cases decide (l[k].v < 0) <;> cases decide (9999 < l[k].v) <;> rfl
theorem subB_f {l : List SubM} {k : Nat} (h : k < l.length) (hb : ((l[k].v < 0 ∨ 9999 < l[k].v) ∨ 0 < (k : Int) ∧ l[k].v ≤ (l[k - 1]'(by omega)).v) ∨ tyOkM l[k].ty = false) : subB l k = false := by
  rw [subB_eq h]
  rcases hb with ((q | q) | ⟨q, r⟩) | q
  · rw [decide_eq_false (show ¬ 0 ≤ l[k].v by omega)]; simp
  · rw [decide_eq_false (show ¬ l[k].v ≤ 9999 by omega)]; simp
  · rw [decide_eq_true (show (k : Int) > 0 from q), decide_eq_true (show (l[k - 1]'(by omega)).v ≥ l[k].v from r)]; simp
  · rw [q]; simp
theorem subB_t {l : List SubM} {k : Nat} (h : k < l.length) (hb : ((0 ≤ l[k].v ∧ l[k].v ≤ 9999) ∧ ((k : Int) ≤ 0 ∨ (l[k - 1]'(by omega)).v < l[k].v)) ∧ tyOkM l[k].ty = true) : subB l k = true := by
  rw [subB_eq h, decide_eq_true hb.1.1.1, decide_eq_true hb.1.1.2, hb.2]
  rcases hb.1.2 with q | q
  · rw [decide_eq_false (show ¬ (k : Int) > 0 by omega)]; rfl
  · rw [decide_eq_false (show ¬ (l[k - 1]'(by omega)).v ≥ l[k].v by omega)]; simp
set_option maxRecDepth 100000 in
set_option maxHeartbeats 2000000 in
theorem c_implSubsOk (l : List SubM) (ho : ∀ s ∈ l, s.ok) (hs : smS SubM.sm l) : FCon Try.prog 44 [.sl 2 (l.map SubM.enc)] (fun r _ => r = .s (.bool (subsM l))) := by
  have hl := hs.1
  refine FCon.intro PM _ Try.func44 (by kernel_rfl) rfl _ Try.ntmps44 rfl [(4, 16, [], [], (lin [] [0, 1, 2, 3, 4, 5, 6, 7, 8, 9, 10, 11, 12, 13, 14, 15]))] (by decide +kernel) (by simp) (by simp) rfl (by first | rfl | simp only [go_sem]) ?_
  (refine AC_go ?_; simp only [go_sem, simprocAttr]; (have hWf := f0; repeat' (first | refine zY ?_ | with_reducible apply And.intro | ((with_reducible intro hb0); revert hb0; with_reducible first | exact zB0 | refine zB fun hb => ?_ | fail) | ((with_reducible apply q_Meet); exact zM) | exact zC | refine zT ?_ | fail)))
  refine AC_fr 1 (.box [.sl 2 (l.map SubM.enc)]) (by simp only [go_sem, simprocAttr]) rfl ?_
  (have hWf := f0; repeat' (first | refine zS ?_ | exact zE | with_reducible apply And.intro | ((with_reducible intro hb0); revert hb0; with_reducible first | exact zB0 | refine zB fun hb => ?_ | fail) | ((with_reducible apply q_Meet); exact zM) | exact zC | refine zT ?_ | fail))
  refine AC_loop (fun n σ => ∃ k : Nat, k ≤ l.length ∧ n = l.length - k ∧ σ.t 1 = .pt [.sl 2 (l.map SubM.enc)] ∧ σ.t 7 = .sl 2 (l.map SubM.enc) ∧ σ.t 8 = .s (.int .i64 l.length) ∧ σ.t 9 = .s (.int .i64 k) ∧ ∀ i, i < k → subB l i = true) l.length ⟨0, by omega, by omega, ?_⟩ ?_
  · simp only [go_sem, simprocAttr, Int.natCast_zero]
    all_goals (intro i hi; omega)
  · rintro n σ ⟨k, hk, rfl, h1, h7, h8, h9, hno⟩ K' hK
    by_cases hlt : k < l.length
    · have hx := getD_map SubM.enc l k hlt
      have he := SubM.enc_eq l[k]
      have htn : ((k : Int) - 1).toNat = k - 1 := by omega
      have hx' := getD_map SubM.enc l (k - 1) (by omega)
      have he' := SubM.enc_eq l[k - 1]
      have hok := ho l[k] (List.getElem_mem hlt)
      have hsm := hs.2 l[k] (List.getElem_mem hlt)
      have hsb := subB_eq hlt
      (have hWf := WFx.mk (And.intro @h1 <| And.intro @h7 <| And.intro @h8 <| And.intro @h9 <| And.intro @hx <| And.intro @he <| And.intro @htn <| And.intro @hx' <| @he'); repeat' (first | refine zS ?_ | exact zE | with_reducible apply And.intro | refine zK (c_within l[k].v 0 9999) ?_ | ((with_reducible apply q_CallG); refine zG (c_implTyOk l[k].ty hok.2 (by have := hsm.1; omega)) ?_) | ((with_reducible apply q_CallQ); refine CallQ_mk (c_implTyOk l[k].ty hok.2 (by have := hsm.1; omega)) ?_) | ((with_reducible intro hb0); revert hb0; with_reducible first | exact zB0 | refine zB fun hb => ?_ | fail) | ((with_reducible apply q_Meet); exact zM) | exact zC | refine zT ?_ | fail))
      · exact sB (subsM_bad1 hlt (subB_f hlt hb)).symm
      · refine hK (l.length - (k + 1)) _ (by omega) ⟨k + 1, by omega, rfl, ?_⟩
        simp only [go_sem, simprocAttr, h1, h7, h8, Int.natCast_succ]
        intro i hi
        by_cases e : i = k
        · subst e; exact subB_t hlt hb
        · exact hno i (by omega)
    · obtain rfl : k = l.length := by omega
      (have hWf := WFx.mk (And.intro @h1 <| And.intro @h7 <| And.intro @h8 <| @h9); repeat' (first | refine zS ?_ | exact zE | with_reducible apply And.intro | ((with_reducible intro hb0); revert hb0; with_reducible first | exact zB0 | refine zB fun hb => ?_ | fail) | ((with_reducible apply q_Meet); exact zM) | exact zC | refine zT ?_ | fail))
      refine AC_loop (fun n σ => ∃ k : Nat, k ≤ l.length ∧ n = l.length - k ∧ σ.t 1 = .pt [.sl 2 (l.map SubM.enc)] ∧ σ.t 40 = .sl 2 (l.map SubM.enc) ∧ σ.t 41 = .s (.int .i64 l.length) ∧ σ.t 42 = .s (.int .i64 k) ∧ ∀ i, i < k → crossB l i = true) l.length ⟨0, by omega, by omega, ?_⟩ ?_
      · simp only [go_sem, simprocAttr, h1, Int.natCast_zero]
        all_goals (intro i hi; omega)
      · rintro n σ ⟨k, hk, rfl, g1, g40, g41, g42, hno2⟩ K'' hK''
        by_cases hlt : k < l.length
        · have hx := getD_map SubM.enc l k hlt
          have he := SubM.enc_eq l[k]
          have hsm := hs.2 l[k] (List.getElem_mem hlt)
          (have hWf := WFx.mk (And.intro @g1 <| And.intro @g40 <| And.intro @g41 <| And.intro @g42 <| And.intro @hx <| @he); repeat' (first | refine zS ?_ | exact zE | with_reducible apply And.intro | ((with_reducible apply q_CallG); refine zG (c_varsIn l[k].ty (by have := hsm.1; omega)) ?_) | ((with_reducible apply q_CallQ); refine CallQ_mk (c_varsIn l[k].ty (by have := hsm.1; omega)) ?_) | ((with_reducible apply q_CallG); refine zG (c_ContainsFunc_int (varsM l[k].ty) _ [.pt [.sl 2 (l.map SubM.enc)]] rfl (fun v => l.any fun s => s.v == v) (fun v _ => c_SubsOk1 l v)) ?_) | ((with_reducible apply q_CallQ); refine CallQ_mk (c_ContainsFunc_int (varsM l[k].ty) _ [.pt [.sl 2 (l.map SubM.enc)]] rfl (fun v => l.any fun s => s.v == v) (fun v _ => c_SubsOk1 l v)) ?_) | ((with_reducible intro hb0); revert hb0; with_reducible first | exact zB0 | refine zB fun hb => ?_ | fail) | ((with_reducible apply q_Meet); exact zM) | exact zC | refine zT ?_ | fail))
          · exact sB (subsM_bad2 hlt (by rw [crossB_at hlt]; unfold clashB; rw [hb]; rfl)).symm
          · refine hK'' (l.length - (k + 1)) _ (by omega) ⟨k + 1, by omega, rfl, ?_⟩
            simp only [go_sem, simprocAttr, g1, g40, g41, Int.natCast_succ]
            intro i hi
            by_cases e : i = k
            · subst e; rw [crossB_at hlt]; unfold clashB; rw [hb]; rfl
            · exact hno2 i (by omega)
        · obtain rfl : k = l.length := by omega
          (have hWf := WFx.mk (And.intro @g1 <| And.intro @g40 <| And.intro @g41 <| @g42); repeat' (first | refine zS ?_ | exact zE | with_reducible apply And.intro | ((with_reducible intro hb0); revert hb0; with_reducible first | exact zB0 | refine zB fun hb => ?_ | fail) | ((with_reducible apply q_Meet); exact zM) | exact zC | refine zT ?_ | fail))
          exact sB (subsM_good (fun i hi => hno i hi) (fun i hi => hno2 i hi)).symm
set_option maxRecDepth 100000 in
set_option maxHeartbeats 2000000 in
theorem c_specSubsOk (l : List SubM) (ho : ∀ s ∈ l, s.ok) (hs : smS SubM.sm l) : FCon Try.prog 61 [.sl 2 (l.map SubM.enc)] (fun r _ => r = .s (.bool (subsM l))) := by
  have hl := hs.1
  refine FCon.intro PM _ Try.func61 (by kernel_rfl) rfl _ Try.ntmps61 rfl [(4, 20, [], [], (lin [] [0, 1, 2, 3, 4, 5, 6, 7, 8, 9, 10, 11, 12, 13, 14, 15, 16, 17, 18, 19])), (9, 5, [], [], (lin [] [0, 1, 2, 3, 4]))] (by decide +kernel) (by simp) (by simp) rfl (by first | rfl | simp only [go_sem]) ?_
  (have hWf := f0; repeat' (first | refine zS ?_ | exact zE | with_reducible apply And.intro | ((with_reducible intro hb0); revert hb0; with_reducible first | exact zB0 | refine zB fun hb => ?_ | fail) | ((with_reducible apply q_Meet); exact zM) | exact zC | refine zT ?_ | fail))
  refine AC_loop (fun n σ => ∃ k : Nat, k ≤ l.length ∧ n = l.length - k ∧ σ.t 0 = .sl 2 (l.map SubM.enc) ∧ σ.t 7 = .sl 2 (l.map SubM.enc) ∧ σ.t 8 = .s (.int .i64 l.length) ∧ σ.t 9 = .s (.int .i64 k) ∧ (∀ i, i < k → subB l i = true) ∧ ∀ i, i < k → crossB l i = true) l.length ⟨0, by omega, by omega, ?_⟩ ?_
  · simp only [go_sem, simprocAttr, Int.natCast_zero]
    all_goals exact ⟨fun i hi => by omega, fun i hi => by omega⟩
  · rintro n σ ⟨k, hk, rfl, h0, h7, h8, h9, hno, hno2⟩ K' hK
    by_cases hlt : k < l.length
    · have hx := getD_map SubM.enc l k hlt
      have he := SubM.enc_eq l[k]
      have htn : ((k : Int) - 1).toNat = k - 1 := by omega
      have hx' := getD_map SubM.enc l (k - 1) (by omega)
      have he' := SubM.enc_eq l[k - 1]
      have hok := ho l[k] (List.getElem_mem hlt)
      have hsm := hs.2 l[k] (List.getElem_mem hlt)
      (have hWf := WFx.mk (And.intro @h0 <| And.intro @h7 <| And.intro @h8 <| And.intro @h9 <| And.intro @hx <| And.intro @he <| And.intro @htn <| And.intro @hx' <| @he'); repeat' (first | refine zS ?_ | exact zE | with_reducible apply And.intro | ((with_reducible apply q_CallG); refine zG (c_specTyOk l[k].ty hok.2 (by have := hsm.1; omega)) ?_) | ((with_reducible apply q_CallQ); refine CallQ_mk (c_specTyOk l[k].ty hok.2 (by have := hsm.1; omega)) ?_) | ((with_reducible intro hb0); revert hb0; with_reducible first | exact zB0 | refine zB fun hb => ?_ | fail) | ((with_reducible apply q_Meet); exact zM) | exact zC | refine zT ?_ | fail))
      · exact sB (subsM_bad1 hlt (subB_f hlt hb)).symm
      · have hsub : subB l k = true := subB_t hlt hb
        refine AC_loop (fun n σ => ∃ j : Nat, j ≤ l.length ∧ n = l.length - j ∧ σ.t 0 = .sl 2 (l.map SubM.enc) ∧ σ.t 4 = .bx 4 0 ∧ σ.b 4 = some (.box [.s (.int .i64 l[k].v), .sl 3 (l[k].ty.map TyI.enc)]) ∧ σ.t 7 = .sl 2 (l.map SubM.enc) ∧ σ.t 8 = .s (.int .i64 l.length) ∧ σ.t 9 = .s (.int .i64 k) ∧ σ.t 43 = .sl 2 (l.map SubM.enc) ∧ σ.t 44 = .s (.int .i64 l.length) ∧ σ.t 45 = .s (.int .i64 j) ∧ ∀ s ∈ l.take j, s.v ∉ sortM l[k].ty) l.length ⟨0, by omega, by omega, ?_⟩ ?_
        · simp only [go_sem, simprocAttr, h0, h7, h8, h9, Int.natCast_zero]
          all_goals simp
        · rintro n σ ⟨j, hj, rfl, g0, g4, gb, g7, g8, g9, g43, g44, g45, hno3⟩ K'' hK''
          by_cases hltj : j < l.length
          · have gx := getD_map SubM.enc l j hltj
            have ge := SubM.enc_eq l[j]
            (have hWf := WFx.mk (And.intro @g0 <| And.intro @g4 <| And.intro @gb <| And.intro @g7 <| And.intro @g8 <| And.intro @g9 <| And.intro @g43 <| And.intro @g44 <| And.intro @g45 <| And.intro @gx <| @ge); repeat' (first | refine zS ?_ | exact zE | with_reducible apply And.intro | ((with_reducible apply q_CallG); refine zG (c_l05Vars l[k].ty (by have := hsm.1; omega)) ?_) | ((with_reducible apply q_CallQ); refine CallQ_mk (c_l05Vars l[k].ty (by have := hsm.1; omega)) ?_) | refine zK (c_l05Has (sortM l[k].ty) l[j].v) ?_ | ((with_reducible intro hb0); revert hb0; with_reducible first | exact zB0 | refine zB fun hb => ?_ | fail) | ((with_reducible apply q_Meet); exact zM) | exact zC | refine zT ?_ | fail))
            · exact sB (subsM_bad2 hlt (by rw [crossB_at hlt, clash_sort, List.any_eq_true.2 ⟨l[j], List.getElem_mem hltj, by simpa using hb⟩]; rfl)).symm
            · refine hK'' (l.length - (j + 1)) _ (by omega) ⟨j + 1, by omega, rfl, ?_⟩
              simp only [go_sem, simprocAttr, g0, g4, gb, g7, g8, g9, g43, g44, Int.natCast_succ]
              intro s hs'
              rw [List.take_succ_eq_append_getElem hltj] at hs'
              rcases List.mem_append.1 hs' with hs' | hs'
              · exact hno3 s hs'
              · simp at hs'; rw [hs']; exact hb
          · obtain rfl : j = l.length := by omega
            (have hWf := WFx.mk (And.intro @g0 <| And.intro @g4 <| And.intro @gb <| And.intro @g7 <| And.intro @g8 <| And.intro @g9 <| And.intro @g43 <| And.intro @g44 <| @g45); repeat' (first | refine zS ?_ | exact zE | with_reducible apply And.intro | ((with_reducible intro hb0); revert hb0; with_reducible first | exact zB0 | refine zB fun hb => ?_ | fail) | ((with_reducible apply q_Meet); exact zM) | exact zC | refine zT ?_ | fail))
            refine hK (l.length - (k + 1)) _ (by omega) ⟨k + 1, by omega, rfl, ?_⟩
            simp only [go_sem, simprocAttr, g0, g7, g8, g9, Int.natCast_succ]
            refine ⟨fun i hi => ?_, fun i hi => ?_⟩
            · by_cases e : i = k
              · subst e; exact hsub
              · exact hno i (by omega)
            · by_cases e : i = k
              · subst e
                rw [crossB_at hlt, clash_sort]
                rw [show (l.any fun s => decide (s.v ∈ sortM l[i].ty)) = false from List.any_eq_false.2 fun s hs' => by
                  have := hno3 s (by simpa using hs')
                  simpa using this]
                rfl
              · exact hno2 i (by omega)
    · obtain rfl : k = l.length := by omega
      (have hWf := WFx.mk (And.intro @h0 <| And.intro @h7 <| And.intro @h8 <| @h9); repeat' (first | refine zS ?_ | exact zE | with_reducible apply And.intro | ((with_reducible intro hb0); revert hb0; with_reducible first | exact zB0 | refine zB fun hb => ?_ | fail) | ((with_reducible apply q_Meet); exact zM) | exact zC | refine zT ?_ | fail))
      exact sB (subsM_good (fun i hi => hno i hi) (fun i hi => hno2 i hi)).symm
end Go.Proofs.Ytngobmjdbjlkcaa
