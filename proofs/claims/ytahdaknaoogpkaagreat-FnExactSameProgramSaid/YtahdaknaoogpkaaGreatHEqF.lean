import Derived.Test.YtahdaknaoogpkaaGreatPgB
/- slices.EqualFunc, slices.Equal over the second engine. Printed by eq2.py. -/
set_option maxRecDepth 100000
set_option maxHeartbeats 1000000
namespace Go.Proofs.YtahdaknaoogpkaaGreat
set_option linter.unusedVariables false
set_option linter.unusedSimpArgs false
open Go.RowKit
def eqF {α : Type} (p : α → α → Bool) : List α → List α → Bool
  | [], [] => true
  | x :: xs, y :: ys => p x y && eqF p xs ys
  | _, _ => false
theorem eqF_len {α : Type} {p : α → α → Bool} : ∀ {xs ys : List α}, xs.length ≠ ys.length → eqF p xs ys = false
  | [], [], h => absurd rfl h
  | [], _ :: _, _ => rfl
  | _ :: _, [], _ => rfl
  | x :: xs, y :: ys, h => by rw [eqF, eqF_len (xs := xs) (ys := ys) (by simpa using h), Bool.and_false]
theorem eqF_drop {α : Type} {p : α → α → Bool} {xs ys : List α} {k : Nat} (h : k < xs.length) (h2 : k < ys.length) : eqF p (xs.drop k) (ys.drop k) = (p xs[k] ys[k] && eqF p (xs.drop (k + 1)) (ys.drop (k + 1))) := by
  rw [List.drop_eq_getElem_cons h, List.drop_eq_getElem_cons h2, eqF]
theorem eqF_end {α : Type} {p : α → α → Bool} {xs ys : List α} (h : xs.length = ys.length) : eqF p (xs.drop xs.length) (ys.drop xs.length) = true := by
  rw [List.drop_length, h, List.drop_length]; rfl
theorem eqF_iff {α : Type} {p : α → α → Bool} (hp : ∀ x y, p x y = true ↔ x = y) : ∀ xs ys : List α, eqF p xs ys = true ↔ xs = ys
  | [], [] => by simp [eqF]
  | [], _ :: _ => by simp [eqF]
  | _ :: _, [] => by simp [eqF]
  | x :: xs, y :: ys => by rw [eqF, Bool.and_eq_true, hp, eqF_iff hp xs ys, List.cons.injEq]
theorem c_EqualFunc_Type (xs ys : List MType) (f : FuncId) (hm : PM.md f = []) (p : MType → MType → Bool) (hf : ∀ x ∈ xs, ∀ y ∈ ys, FCon Tryz.prog f [.ag x.enc, .ag y.enc] (fun r _ => r = .s (.bool (p x y)))) :
    FCon Tryz.prog 95 [.sl 3 (xs.map MType.enc), .sl 3 (ys.map MType.enc), .fn f []] (fun r _ => r = .s (.bool (eqF p xs ys))) := by
  refine FCon.intro PM _ Tryz.func95 (by kernel_rfl) rfl _ Tryz.ntmps95 rfl [] (by decide +kernel) (by simp) (by simp) rfl (by first | rfl | simp only [go_sem]) ?_
  refine AC_len 0 rfl trivial fun hlen => ?_
  refine AC_len 1 rfl trivial fun hlen2 => ?_
  simp only [List.length_map] at hlen hlen2
  by_cases hl : xs.length = ys.length
  · (have hWf := WFx.mk @hl; repeat' (first | refine zS ?_ | exact zE | with_reducible apply And.intro | with_reducible exact zB0 | with_reducible refine zB fun hb => ?_ | exact zC | refine zT ?_ | fail))
    refine AC_loop (fun n σ => ∃ k : Nat, k ≤ xs.length ∧ n = xs.length - k ∧ σ.t 0 = .sl 3 (xs.map MType.enc) ∧ σ.t 1 = .sl 3 (ys.map MType.enc) ∧ σ.t 2 = .fn f [] ∧ σ.t 15 = .sl 3 (xs.map MType.enc) ∧ σ.t 16 = .s (.int .i64 xs.length) ∧ σ.t 17 = .s (.int .i64 k) ∧ eqF p xs ys = eqF p (xs.drop k) (ys.drop k)) xs.length ⟨0, by omega, by omega, ?_⟩ ?_
    · simp only [go_sem, simprocAttr, hl, Int.natCast_zero, List.drop_zero]
    · rintro n σ ⟨k, hk, rfl, h0, h1, h2, h15, h16, h17, he⟩ K' hK
      by_cases hlt : k < xs.length
      · have hlt2 : k < ys.length := by omega
        have hx := getD_map MType.enc xs k hlt
        have hy := getD_map MType.enc ys k hlt2
        have hxe := MType.enc_eq xs[k]
        have hye := MType.enc_eq ys[k]
        have hc := hf xs[k] (List.getElem_mem hlt) ys[k] (List.getElem_mem hlt2)
        rw [hxe, hye] at hc
        rw [eqF_drop hlt hlt2] at he
        have hlI : (xs.length : Int) = ys.length := by omega
        cases hp : p xs[k] ys[k] with
        | true =>
          rw [hp] at hc
          rw [hp, Bool.true_and] at he
          (have hWf := WFx.mk (ai @h0 <| ai @h1 <| ai @h2 <| ai @h15 <| ai @h16 <| ai @h17 <| ai @hx <| ai @hy <| ai @hxe <| ai @hye <| @hm); repeat' (first | refine zS ?_ | exact zE | with_reducible apply And.intro | refine zK (hc) ?_ | with_reducible exact zB0 | with_reducible refine zB fun hb => ?_ | exact zC | refine zT ?_ | fail))
          refine hK (xs.length - (k + 1)) _ (by omega) ⟨k + 1, by omega, rfl, ?_⟩
          simp only [go_sem, simprocAttr, h0, h1, h2, h15, h16, h17, Int.natCast_succ]
          exact he
        | false =>
          rw [hp] at hc
          rw [hp, Bool.false_and] at he
          (have hWf := WFx.mk (ai @h0 <| ai @h1 <| ai @h2 <| ai @h15 <| ai @h16 <| ai @h17 <| ai @hx <| ai @hy <| ai @hxe <| ai @hye <| @hm); repeat' (first | refine zS ?_ | exact zE | with_reducible apply And.intro | refine zK (hc) ?_ | with_reducible exact zB0 | with_reducible refine zB fun hb => ?_ | exact zC | refine zT ?_ | fail))
          exact sB he.symm
      · obtain rfl : k = xs.length := by omega
        rw [eqF_end hl] at he
        (have hWf := WFx.mk (ai @h0 <| ai @h1 <| ai @h2 <| ai @h15 <| ai @h16 <| @h17); repeat' (first | refine zS ?_ | exact zE | with_reducible apply And.intro | with_reducible exact zB0 | with_reducible refine zB fun hb => ?_ | exact zC | refine zT ?_ | fail))
        exact sB he.symm
  · have hne : ((xs.length : Int) != (ys.length : Int)) = true := by simp only [bne_iff_ne, ne_eq]; omega
    (have hWf := WFx.mk @hne; repeat' (first | refine zS ?_ | exact zE | with_reducible apply And.intro | with_reducible exact zB0 | with_reducible refine zB fun hb => ?_ | exact zC | refine zT ?_ | fail))
    exact sB (eqF_len hl).symm
theorem c_EqualFunc_Con (xs ys : List MCon) (f : FuncId) (hm : PM.md f = []) (p : MCon → MCon → Bool) (hf : ∀ x ∈ xs, ∀ y ∈ ys, FCon Tryz.prog f [.ag x.enc, .ag y.enc] (fun r _ => r = .s (.bool (p x y)))) :
    FCon Tryz.prog 97 [.sl 3 (xs.map MCon.enc), .sl 3 (ys.map MCon.enc), .fn f []] (fun r _ => r = .s (.bool (eqF p xs ys))) := by
  refine FCon.intro PM _ Tryz.func97 (by kernel_rfl) rfl _ Tryz.ntmps97 rfl [] (by decide +kernel) (by simp) (by simp) rfl (by first | rfl | simp only [go_sem]) ?_
  refine AC_len 0 rfl trivial fun hlen => ?_
  refine AC_len 1 rfl trivial fun hlen2 => ?_
  simp only [List.length_map] at hlen hlen2
  by_cases hl : xs.length = ys.length
  · (have hWf := WFx.mk @hl; repeat' (first | refine zS ?_ | exact zE | with_reducible apply And.intro | with_reducible exact zB0 | with_reducible refine zB fun hb => ?_ | exact zC | refine zT ?_ | fail))
    refine AC_loop (fun n σ => ∃ k : Nat, k ≤ xs.length ∧ n = xs.length - k ∧ σ.t 0 = .sl 3 (xs.map MCon.enc) ∧ σ.t 1 = .sl 3 (ys.map MCon.enc) ∧ σ.t 2 = .fn f [] ∧ σ.t 15 = .sl 3 (xs.map MCon.enc) ∧ σ.t 16 = .s (.int .i64 xs.length) ∧ σ.t 17 = .s (.int .i64 k) ∧ eqF p xs ys = eqF p (xs.drop k) (ys.drop k)) xs.length ⟨0, by omega, by omega, ?_⟩ ?_
    · simp only [go_sem, simprocAttr, hl, Int.natCast_zero, List.drop_zero]
    · rintro n σ ⟨k, hk, rfl, h0, h1, h2, h15, h16, h17, he⟩ K' hK
      by_cases hlt : k < xs.length
      · have hlt2 : k < ys.length := by omega
        have hx := getD_map MCon.enc xs k hlt
        have hy := getD_map MCon.enc ys k hlt2
        have hxe := MCon.enc_eq xs[k]
        have hye := MCon.enc_eq ys[k]
        have hc := hf xs[k] (List.getElem_mem hlt) ys[k] (List.getElem_mem hlt2)
        rw [hxe, hye] at hc
        rw [eqF_drop hlt hlt2] at he
        have hlI : (xs.length : Int) = ys.length := by omega
        cases hp : p xs[k] ys[k] with
        | true =>
          rw [hp] at hc
          rw [hp, Bool.true_and] at he
          (have hWf := WFx.mk (ai @h0 <| ai @h1 <| ai @h2 <| ai @h15 <| ai @h16 <| ai @h17 <| ai @hx <| ai @hy <| ai @hxe <| ai @hye <| @hm); repeat' (first | refine zS ?_ | exact zE | with_reducible apply And.intro | refine zK (hc) ?_ | with_reducible exact zB0 | with_reducible refine zB fun hb => ?_ | exact zC | refine zT ?_ | fail))
          refine hK (xs.length - (k + 1)) _ (by omega) ⟨k + 1, by omega, rfl, ?_⟩
          simp only [go_sem, simprocAttr, h0, h1, h2, h15, h16, h17, Int.natCast_succ]
          exact he
        | false =>
          rw [hp] at hc
          rw [hp, Bool.false_and] at he
          (have hWf := WFx.mk (ai @h0 <| ai @h1 <| ai @h2 <| ai @h15 <| ai @h16 <| ai @h17 <| ai @hx <| ai @hy <| ai @hxe <| ai @hye <| @hm); repeat' (first | refine zS ?_ | exact zE | with_reducible apply And.intro | refine zK (hc) ?_ | with_reducible exact zB0 | with_reducible refine zB fun hb => ?_ | exact zC | refine zT ?_ | fail))
          exact sB he.symm
      · obtain rfl : k = xs.length := by omega
        rw [eqF_end hl] at he
        (have hWf := WFx.mk (ai @h0 <| ai @h1 <| ai @h2 <| ai @h15 <| ai @h16 <| @h17); repeat' (first | refine zS ?_ | exact zE | with_reducible apply And.intro | with_reducible exact zB0 | with_reducible refine zB fun hb => ?_ | exact zC | refine zT ?_ | fail))
        exact sB he.symm
  · have hne : ((xs.length : Int) != (ys.length : Int)) = true := by simp only [bne_iff_ne, ne_eq]; omega
    (have hWf := WFx.mk @hne; repeat' (first | refine zS ?_ | exact zE | with_reducible apply And.intro | with_reducible exact zB0 | with_reducible refine zB fun hb => ?_ | exact zC | refine zT ?_ | fail))
    exact sB (eqF_len hl).symm
theorem c_EqualFunc_Node (xs ys : List MNode) (f : FuncId) (hm : PM.md f = []) (p : MNode → MNode → Bool) (hf : ∀ x ∈ xs, ∀ y ∈ ys, FCon Tryz.prog f [.ag x.enc, .ag y.enc] (fun r _ => r = .s (.bool (p x y)))) :
    FCon Tryz.prog 100 [.sl 6 (xs.map MNode.enc), .sl 6 (ys.map MNode.enc), .fn f []] (fun r _ => r = .s (.bool (eqF p xs ys))) := by
  refine FCon.intro PM _ Tryz.func100 (by kernel_rfl) rfl _ Tryz.ntmps100 rfl [] (by decide +kernel) (by simp) (by simp) rfl (by first | rfl | simp only [go_sem]) ?_
  refine AC_len 0 rfl trivial fun hlen => ?_
  refine AC_len 1 rfl trivial fun hlen2 => ?_
  simp only [List.length_map] at hlen hlen2
  by_cases hl : xs.length = ys.length
  · (have hWf := WFx.mk @hl; repeat' (first | refine zS ?_ | exact zE | with_reducible apply And.intro | with_reducible exact zB0 | with_reducible refine zB fun hb => ?_ | exact zC | refine zT ?_ | fail))
    refine AC_loop (fun n σ => ∃ k : Nat, k ≤ xs.length ∧ n = xs.length - k ∧ σ.t 0 = .sl 6 (xs.map MNode.enc) ∧ σ.t 1 = .sl 6 (ys.map MNode.enc) ∧ σ.t 2 = .fn f [] ∧ σ.t 15 = .sl 6 (xs.map MNode.enc) ∧ σ.t 16 = .s (.int .i64 xs.length) ∧ σ.t 17 = .s (.int .i64 k) ∧ eqF p xs ys = eqF p (xs.drop k) (ys.drop k)) xs.length ⟨0, by omega, by omega, ?_⟩ ?_
    · simp only [go_sem, simprocAttr, hl, Int.natCast_zero, List.drop_zero]
    · rintro n σ ⟨k, hk, rfl, h0, h1, h2, h15, h16, h17, he⟩ K' hK
      by_cases hlt : k < xs.length
      · have hlt2 : k < ys.length := by omega
        have hx := getD_map MNode.enc xs k hlt
        have hy := getD_map MNode.enc ys k hlt2
        have hxe := MNode.enc_eq xs[k]
        have hye := MNode.enc_eq ys[k]
        have hc := hf xs[k] (List.getElem_mem hlt) ys[k] (List.getElem_mem hlt2)
        rw [hxe, hye] at hc
        rw [eqF_drop hlt hlt2] at he
        have hlI : (xs.length : Int) = ys.length := by omega
        cases hp : p xs[k] ys[k] with
        | true =>
          rw [hp] at hc
          rw [hp, Bool.true_and] at he
          (have hWf := WFx.mk (ai @h0 <| ai @h1 <| ai @h2 <| ai @h15 <| ai @h16 <| ai @h17 <| ai @hx <| ai @hy <| ai @hxe <| ai @hye <| @hm); repeat' (first | refine zS ?_ | exact zE | with_reducible apply And.intro | refine zK (hc) ?_ | with_reducible exact zB0 | with_reducible refine zB fun hb => ?_ | exact zC | refine zT ?_ | fail))
          refine hK (xs.length - (k + 1)) _ (by omega) ⟨k + 1, by omega, rfl, ?_⟩
          simp only [go_sem, simprocAttr, h0, h1, h2, h15, h16, h17, Int.natCast_succ]
          exact he
        | false =>
          rw [hp] at hc
          rw [hp, Bool.false_and] at he
          (have hWf := WFx.mk (ai @h0 <| ai @h1 <| ai @h2 <| ai @h15 <| ai @h16 <| ai @h17 <| ai @hx <| ai @hy <| ai @hxe <| ai @hye <| @hm); repeat' (first | refine zS ?_ | exact zE | with_reducible apply And.intro | refine zK (hc) ?_ | with_reducible exact zB0 | with_reducible refine zB fun hb => ?_ | exact zC | refine zT ?_ | fail))
          exact sB he.symm
      · obtain rfl : k = xs.length := by omega
        rw [eqF_end hl] at he
        (have hWf := WFx.mk (ai @h0 <| ai @h1 <| ai @h2 <| ai @h15 <| ai @h16 <| @h17); repeat' (first | refine zS ?_ | exact zE | with_reducible apply And.intro | with_reducible exact zB0 | with_reducible refine zB fun hb => ?_ | exact zC | refine zT ?_ | fail))
        exact sB he.symm
  · have hne : ((xs.length : Int) != (ys.length : Int)) = true := by simp only [bne_iff_ne, ne_eq]; omega
    (have hWf := WFx.mk @hne; repeat' (first | refine zS ?_ | exact zE | with_reducible apply And.intro | with_reducible exact zB0 | with_reducible refine zB fun hb => ?_ | exact zC | refine zT ?_ | fail))
    exact sB (eqF_len hl).symm
theorem c_EqualFunc_Pat (xs ys : List MPat) (f : FuncId) (hm : PM.md f = []) (p : MPat → MPat → Bool) (hf : ∀ x ∈ xs, ∀ y ∈ ys, FCon Tryz.prog f [.ag x.enc, .ag y.enc] (fun r _ => r = .s (.bool (p x y)))) :
    FCon Tryz.prog 103 [.sl 1 (xs.map MPat.enc), .sl 1 (ys.map MPat.enc), .fn f []] (fun r _ => r = .s (.bool (eqF p xs ys))) := by
  refine FCon.intro PM _ Tryz.func103 (by kernel_rfl) rfl _ Tryz.ntmps103 rfl [] (by decide +kernel) (by simp) (by simp) rfl (by first | rfl | simp only [go_sem]) ?_
  refine AC_len 0 rfl trivial fun hlen => ?_
  refine AC_len 1 rfl trivial fun hlen2 => ?_
  simp only [List.length_map] at hlen hlen2
  by_cases hl : xs.length = ys.length
  · (have hWf := WFx.mk @hl; repeat' (first | refine zS ?_ | exact zE | with_reducible apply And.intro | with_reducible exact zB0 | with_reducible refine zB fun hb => ?_ | exact zC | refine zT ?_ | fail))
    refine AC_loop (fun n σ => ∃ k : Nat, k ≤ xs.length ∧ n = xs.length - k ∧ σ.t 0 = .sl 1 (xs.map MPat.enc) ∧ σ.t 1 = .sl 1 (ys.map MPat.enc) ∧ σ.t 2 = .fn f [] ∧ σ.t 15 = .sl 1 (xs.map MPat.enc) ∧ σ.t 16 = .s (.int .i64 xs.length) ∧ σ.t 17 = .s (.int .i64 k) ∧ eqF p xs ys = eqF p (xs.drop k) (ys.drop k)) xs.length ⟨0, by omega, by omega, ?_⟩ ?_
    · simp only [go_sem, simprocAttr, hl, Int.natCast_zero, List.drop_zero]
    · rintro n σ ⟨k, hk, rfl, h0, h1, h2, h15, h16, h17, he⟩ K' hK
      by_cases hlt : k < xs.length
      · have hlt2 : k < ys.length := by omega
        have hx := getD_map MPat.enc xs k hlt
        have hy := getD_map MPat.enc ys k hlt2
        have hxe := MPat.enc_eq xs[k]
        have hye := MPat.enc_eq ys[k]
        have hc := hf xs[k] (List.getElem_mem hlt) ys[k] (List.getElem_mem hlt2)
        rw [hxe, hye] at hc
        rw [eqF_drop hlt hlt2] at he
        have hlI : (xs.length : Int) = ys.length := by omega
        cases hp : p xs[k] ys[k] with
        | true =>
          rw [hp] at hc
          rw [hp, Bool.true_and] at he
          (have hWf := WFx.mk (ai @h0 <| ai @h1 <| ai @h2 <| ai @h15 <| ai @h16 <| ai @h17 <| ai @hx <| ai @hy <| ai @hxe <| ai @hye <| @hm); repeat' (first | refine zS ?_ | exact zE | with_reducible apply And.intro | refine zK (hc) ?_ | with_reducible exact zB0 | with_reducible refine zB fun hb => ?_ | exact zC | refine zT ?_ | fail))
          refine hK (xs.length - (k + 1)) _ (by omega) ⟨k + 1, by omega, rfl, ?_⟩
          simp only [go_sem, simprocAttr, h0, h1, h2, h15, h16, h17, Int.natCast_succ]
          exact he
        | false =>
          rw [hp] at hc
          rw [hp, Bool.false_and] at he
          (have hWf := WFx.mk (ai @h0 <| ai @h1 <| ai @h2 <| ai @h15 <| ai @h16 <| ai @h17 <| ai @hx <| ai @hy <| ai @hxe <| ai @hye <| @hm); repeat' (first | refine zS ?_ | exact zE | with_reducible apply And.intro | refine zK (hc) ?_ | with_reducible exact zB0 | with_reducible refine zB fun hb => ?_ | exact zC | refine zT ?_ | fail))
          exact sB he.symm
      · obtain rfl : k = xs.length := by omega
        rw [eqF_end hl] at he
        (have hWf := WFx.mk (ai @h0 <| ai @h1 <| ai @h2 <| ai @h15 <| ai @h16 <| @h17); repeat' (first | refine zS ?_ | exact zE | with_reducible apply And.intro | with_reducible exact zB0 | with_reducible refine zB fun hb => ?_ | exact zC | refine zT ?_ | fail))
        exact sB he.symm
  · have hne : ((xs.length : Int) != (ys.length : Int)) = true := by simp only [bne_iff_ne, ne_eq]; omega
    (have hWf := WFx.mk @hne; repeat' (first | refine zS ?_ | exact zE | with_reducible apply And.intro | with_reducible exact zB0 | with_reducible refine zB fun hb => ?_ | exact zC | refine zT ?_ | fail))
    exact sB (eqF_len hl).symm
theorem c_EqualFunc_PNode (xs ys : List DPNode) (f : FuncId) (hm : PM.md f = []) (p : DPNode → DPNode → Bool) (hf : ∀ x ∈ xs, ∀ y ∈ ys, FCon Tryz.prog f [.ag x.enc, .ag y.enc] (fun r _ => r = .s (.bool (p x y)))) :
    FCon Tryz.prog 191 [.sl 4 (xs.map DPNode.enc), .sl 4 (ys.map DPNode.enc), .fn f []] (fun r _ => r = .s (.bool (eqF p xs ys))) := by
  refine FCon.intro PM _ Tryz.func191 (by kernel_rfl) rfl _ Tryz.ntmps191 rfl [] (by decide +kernel) (by simp) (by simp) rfl (by first | rfl | simp only [go_sem]) ?_
  refine AC_len 0 rfl trivial fun hlen => ?_
  refine AC_len 1 rfl trivial fun hlen2 => ?_
  simp only [List.length_map] at hlen hlen2
  by_cases hl : xs.length = ys.length
  · (have hWf := WFx.mk @hl; repeat' (first | refine zS ?_ | exact zE | with_reducible apply And.intro | with_reducible exact zB0 | with_reducible refine zB fun hb => ?_ | exact zC | refine zT ?_ | fail))
    refine AC_loop (fun n σ => ∃ k : Nat, k ≤ xs.length ∧ n = xs.length - k ∧ σ.t 0 = .sl 4 (xs.map DPNode.enc) ∧ σ.t 1 = .sl 4 (ys.map DPNode.enc) ∧ σ.t 2 = .fn f [] ∧ σ.t 15 = .sl 4 (xs.map DPNode.enc) ∧ σ.t 16 = .s (.int .i64 xs.length) ∧ σ.t 17 = .s (.int .i64 k) ∧ eqF p xs ys = eqF p (xs.drop k) (ys.drop k)) xs.length ⟨0, by omega, by omega, ?_⟩ ?_
    · simp only [go_sem, simprocAttr, hl, Int.natCast_zero, List.drop_zero]
    · rintro n σ ⟨k, hk, rfl, h0, h1, h2, h15, h16, h17, he⟩ K' hK
      by_cases hlt : k < xs.length
      · have hlt2 : k < ys.length := by omega
        have hx := getD_map DPNode.enc xs k hlt
        have hy := getD_map DPNode.enc ys k hlt2
        have hxe := DPNode.enc_eq xs[k]
        have hye := DPNode.enc_eq ys[k]
        have hc := hf xs[k] (List.getElem_mem hlt) ys[k] (List.getElem_mem hlt2)
        rw [hxe, hye] at hc
        rw [eqF_drop hlt hlt2] at he
        have hlI : (xs.length : Int) = ys.length := by omega
        cases hp : p xs[k] ys[k] with
        | true =>
          rw [hp] at hc
          rw [hp, Bool.true_and] at he
          (have hWf := WFx.mk (ai @h0 <| ai @h1 <| ai @h2 <| ai @h15 <| ai @h16 <| ai @h17 <| ai @hx <| ai @hy <| ai @hxe <| ai @hye <| @hm); repeat' (first | refine zS ?_ | exact zE | with_reducible apply And.intro | refine zK (hc) ?_ | with_reducible exact zB0 | with_reducible refine zB fun hb => ?_ | exact zC | refine zT ?_ | fail))
          refine hK (xs.length - (k + 1)) _ (by omega) ⟨k + 1, by omega, rfl, ?_⟩
          simp only [go_sem, simprocAttr, h0, h1, h2, h15, h16, h17, Int.natCast_succ]
          exact he
        | false =>
          rw [hp] at hc
          rw [hp, Bool.false_and] at he
          (have hWf := WFx.mk (ai @h0 <| ai @h1 <| ai @h2 <| ai @h15 <| ai @h16 <| ai @h17 <| ai @hx <| ai @hy <| ai @hxe <| ai @hye <| @hm); repeat' (first | refine zS ?_ | exact zE | with_reducible apply And.intro | refine zK (hc) ?_ | with_reducible exact zB0 | with_reducible refine zB fun hb => ?_ | exact zC | refine zT ?_ | fail))
          exact sB he.symm
      · obtain rfl : k = xs.length := by omega
        rw [eqF_end hl] at he
        (have hWf := WFx.mk (ai @h0 <| ai @h1 <| ai @h2 <| ai @h15 <| ai @h16 <| @h17); repeat' (first | refine zS ?_ | exact zE | with_reducible apply And.intro | with_reducible exact zB0 | with_reducible refine zB fun hb => ?_ | exact zC | refine zT ?_ | fail))
        exact sB he.symm
  · have hne : ((xs.length : Int) != (ys.length : Int)) = true := by simp only [bne_iff_ne, ne_eq]; omega
    (have hWf := WFx.mk @hne; repeat' (first | refine zS ?_ | exact zE | with_reducible apply And.intro | with_reducible exact zB0 | with_reducible refine zB fun hb => ?_ | exact zC | refine zT ?_ | fail))
    exact sB (eqF_len hl).symm
end Go.Proofs.YtahdaknaoogpkaaGreat
