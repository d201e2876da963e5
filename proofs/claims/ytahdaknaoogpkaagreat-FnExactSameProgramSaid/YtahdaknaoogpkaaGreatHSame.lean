import Derived.Test.YtahdaknaoogpkaaGreatHEqF
import Derived.Test.YtahdaknaoogpkaaGreatHPrS
import Derived.Test.YtahdaknaoogpkaaGreatExD6
/- sameTypes, sameNodes, SameProgram over the second engine. -/
set_option maxRecDepth 100000
set_option maxHeartbeats 1000000
namespace Go.Proofs.YtahdaknaoogpkaaGreat
set_option linter.unusedVariables false
set_option linter.unusedSimpArgs false
open Go.RowKit Arb
open Classical in
noncomputable def eqB {α : Type} (x y : α) : Bool := decide (x = y)
theorem eqB_iff {α : Type} (x y : α) : eqB x y = true ↔ x = y := by unfold eqB; simp
theorem eqB_self {α : Type} (x : α) : eqB x x = true := (eqB_iff x x).2 rfl
theorem eqB_ne {α : Type} {x y : α} (h : x ≠ y) : eqB x y = false := by unfold eqB; simp [h]
theorem eqF_eqB {α : Type} (xs ys : List α) : eqF eqB xs ys = eqB xs ys := by
  rw [Bool.eq_iff_iff, eqF_iff eqB_iff, eqB_iff]
theorem c_Equal_int (xs ys : List Int) : FCon Tryz.prog 102 [.sl 1 (xs.map iE), .sl 1 (ys.map iE)] (fun r _ => r = .s (.bool (eqB xs ys))) := by
  rw [← eqF_eqB]
  refine FCon.intro PM _ Tryz.func102 (by kernel_rfl) rfl _ Tryz.ntmps102 rfl [(6, 8, [], [], (lin [] [0, 1, 2, 3, 4, 5, 6, 7]))] (by decide +kernel) (by simp) (by simp) rfl (by first | rfl | simp only [go_sem]) ?_
  refine AC_len 0 rfl trivial fun hlen => ?_
  refine AC_len 1 rfl trivial fun hlen2 => ?_
  simp only [List.length_map] at hlen hlen2
  by_cases hl : xs.length = ys.length
  · (have hWf := WFx.mk @hl; repeat' (first | refine zS ?_ | exact zE | with_reducible apply And.intro | with_reducible exact zB0 | with_reducible refine zB fun hb => ?_ | exact zC | refine zT ?_ | fail))
    refine AC_loop (fun n σ => ∃ k : Nat, k ≤ xs.length ∧ n = xs.length - k ∧ σ.t 0 = .sl 1 (xs.map iE) ∧ σ.t 1 = .sl 1 (ys.map iE) ∧ σ.t 12 = .s (.int .i64 xs.length) ∧ σ.t 13 = .s (.int .i64 k) ∧ eqF eqB xs ys = eqF eqB (xs.drop k) (ys.drop k)) xs.length ⟨0, by omega, by omega, ?_⟩ ?_
    · simp only [go_sem, simprocAttr, hl, Int.natCast_zero, List.drop_zero]
    · rintro n σ ⟨k, hk, rfl, h0, h1, h12, h13, he⟩ K' hK
      by_cases hlt : k < xs.length
      · have hlt2 : k < ys.length := by omega
        have hx := getD_map iE xs k hlt
        have hy := getD_map iE ys k hlt2
        have hxe : iE xs[k] = [.s (.int .i64 xs[k])] := rfl
        have hye : iE ys[k] = [.s (.int .i64 ys[k])] := rfl
        rw [eqF_drop hlt hlt2] at he
        have hlI : (xs.length : Int) = ys.length := by omega
        by_cases hp : xs[k] = ys[k]
        · have hb : (xs[k] != ys[k]) = false := by simp [hp]
          rw [(eqB_iff _ _).2 hp, Bool.true_and] at he
          (have hWf := WFx.mk (ai @h0 <| ai @h1 <| ai @h12 <| ai @h13 <| ai @hx <| ai @hy <| ai @hxe <| ai @hye <| @hb); repeat' (first | refine zS ?_ | exact zE | with_reducible apply And.intro | with_reducible exact zB0 | with_reducible refine zB fun hb => ?_ | exact zC | refine zT ?_ | fail))
          refine hK (xs.length - (k + 1)) _ (by omega) ⟨k + 1, by omega, rfl, ?_⟩
          simp only [go_sem, simprocAttr, h0, h1, h12, h13, Int.natCast_succ]
          exact he
        · have hb : (xs[k] != ys[k]) = true := by simp [hp]
          rw [eqB_ne hp, Bool.false_and] at he
          (have hWf := WFx.mk (ai @h0 <| ai @h1 <| ai @h12 <| ai @h13 <| ai @hx <| ai @hy <| ai @hxe <| ai @hye <| @hb); repeat' (first | refine zS ?_ | exact zE | with_reducible apply And.intro | with_reducible exact zB0 | with_reducible refine zB fun hb => ?_ | exact zC | refine zT ?_ | fail))
          exact sB he.symm
      · obtain rfl : k = xs.length := by omega
        rw [eqF_end hl] at he
        (have hWf := WFx.mk (ai @h0 <| ai @h1 <| ai @h12 <| @h13); repeat' (first | refine zS ?_ | exact zE | with_reducible apply And.intro | with_reducible exact zB0 | with_reducible refine zB fun hb => ?_ | exact zC | refine zT ?_ | fail))
        exact sB he.symm
  · have hne : ((xs.length : Int) != (ys.length : Int)) = true := by simp only [bne_iff_ne, ne_eq]; omega
    (have hWf := WFx.mk @hne; repeat' (first | refine zS ?_ | exact zE | with_reducible apply And.intro | with_reducible exact zB0 | with_reducible refine zB fun hb => ?_ | exact zC | refine zT ?_ | fail))
    exact sB (eqF_len hl).symm
theorem strEq {s t : ByteArray} : (s.toList == t.toList) = eqB s t := by
  rw [Bool.eq_iff_iff, beq_iff_eq, eqB_iff, ByteArray.toList_eq, ByteArray.toList_eq]
  exact ⟨fun h => byte_eq h, fun h => by rw [h]⟩
def tyB (x y : TyI) : Bool := x.v == y.v && (x.name.toList == y.name.toList && x.ar == y.ar)
theorem tyB_iff (x y : TyI) : tyB x y = true ↔ x = y := by
  unfold tyB
  rw [strEq, Bool.and_eq_true, Bool.and_eq_true, beq_iff_eq, beq_iff_eq, eqB_iff]
  obtain ⟨a, b, c⟩ := x
  obtain ⟨a', b', c'⟩ := y
  simp only [TyI.mk.injEq]
theorem tyB_eq (x y : TyI) : tyB x y = eqB x y := by rw [Bool.eq_iff_iff, tyB_iff, eqB_iff]
theorem c_Equal_TyI (xs ys : List TyI) : FCon Tryz.prog 99 [.sl 3 (xs.map TyI.enc), .sl 3 (ys.map TyI.enc)] (fun r _ => r = .s (.bool (eqB xs ys))) := by
  rw [← eqF_eqB]
  refine FCon.intro PM _ Tryz.func99 (by kernel_rfl) rfl _ Tryz.ntmps99 rfl [(6, 8, [], [], (lin [] [0, 1, 2, 3, 4, 5, 6, 7]))] (by decide +kernel) (by simp) (by simp) rfl (by first | rfl | simp only [go_sem]) ?_
  refine AC_len 0 rfl trivial fun hlen => ?_
  refine AC_len 1 rfl trivial fun hlen2 => ?_
  simp only [List.length_map] at hlen hlen2
  by_cases hl : xs.length = ys.length
  · (have hWf := WFx.mk @hl; repeat' (first | refine zS ?_ | exact zE | with_reducible apply And.intro | with_reducible exact zB0 | with_reducible refine zB fun hb => ?_ | exact zC | refine zT ?_ | fail))
    refine AC_loop (fun n σ => ∃ k : Nat, k ≤ xs.length ∧ n = xs.length - k ∧ σ.t 0 = .sl 3 (xs.map TyI.enc) ∧ σ.t 1 = .sl 3 (ys.map TyI.enc) ∧ σ.t 12 = .s (.int .i64 xs.length) ∧ σ.t 13 = .s (.int .i64 k) ∧ eqF eqB xs ys = eqF eqB (xs.drop k) (ys.drop k)) xs.length ⟨0, by omega, by omega, ?_⟩ ?_
    · simp only [go_sem, simprocAttr, hl, Int.natCast_zero, List.drop_zero]
    · rintro n σ ⟨k, hk, rfl, h0, h1, h12, h13, he⟩ K' hK
      by_cases hlt : k < xs.length
      · have hlt2 : k < ys.length := by omega
        have hx := getD_map TyI.enc xs k hlt
        have hy := getD_map TyI.enc ys k hlt2
        have hxe := TyI.enc_eq xs[k]
        have hye := TyI.enc_eq ys[k]
        rw [eqF_drop hlt hlt2, ← tyB_eq] at he
        have hlI : (xs.length : Int) = ys.length := by omega
        cases hp : tyB xs[k] ys[k] with
        | true =>
          have hq : (xs[k].v == ys[k].v && (xs[k].name.toList == ys[k].name.toList && xs[k].ar == ys[k].ar)) = true := hp
          rw [hp, Bool.true_and] at he
          (have hWf := WFx.mk (ai @h0 <| ai @h1 <| ai @h12 <| ai @h13 <| ai @hx <| ai @hy <| ai @hxe <| ai @hye <| @hq); repeat' (first | refine zS ?_ | exact zE | with_reducible apply And.intro | with_reducible exact zB0 | with_reducible refine zB fun hb => ?_ | exact zC | refine zT ?_ | fail))
          refine hK (xs.length - (k + 1)) _ (by omega) ⟨k + 1, by omega, rfl, ?_⟩
          simp only [go_sem, simprocAttr, h0, h1, h12, h13, Int.natCast_succ]
          exact he
        | false =>
          have hq : (xs[k].v == ys[k].v && (xs[k].name.toList == ys[k].name.toList && xs[k].ar == ys[k].ar)) = false := hp
          rw [hp, Bool.false_and] at he
          (have hWf := WFx.mk (ai @h0 <| ai @h1 <| ai @h12 <| ai @h13 <| ai @hx <| ai @hy <| ai @hxe <| ai @hye <| @hq); repeat' (first | refine zS ?_ | exact zE | with_reducible apply And.intro | with_reducible exact zB0 | with_reducible refine zB fun hb => ?_ | exact zC | refine zT ?_ | fail))
          exact sB he.symm
      · obtain rfl : k = xs.length := by omega
        rw [eqF_end hl] at he
        (have hWf := WFx.mk (ai @h0 <| ai @h1 <| ai @h12 <| @h13); repeat' (first | refine zS ?_ | exact zE | with_reducible apply And.intro | with_reducible exact zB0 | with_reducible refine zB fun hb => ?_ | exact zC | refine zT ?_ | fail))
        exact sB he.symm
  · have hne : ((xs.length : Int) != (ys.length : Int)) = true := by simp only [bne_iff_ne, ne_eq]; omega
    (have hWf := WFx.mk @hne; repeat' (first | refine zS ?_ | exact zE | with_reducible apply And.intro | with_reducible exact zB0 | with_reducible refine zB fun hb => ?_ | exact zC | refine zT ?_ | fail))
    exact sB (eqF_len hl).symm
def conB (c d : MCon) : Prop := c = d
theorem con_eqB (c d : MCon) : eqB c d = (c.name.toList == d.name.toList && (c.has == d.has) && eqB c.arg d.arg) := by
  rw [strEq, Bool.eq_iff_iff, Bool.and_eq_true, Bool.and_eq_true, eqB_iff, eqB_iff, eqB_iff, beq_iff_eq]
  obtain ⟨a, b, x⟩ := c
  obtain ⟨a', b', x'⟩ := d
  simp only [MCon.mk.injEq]
  exact ⟨fun h => ⟨⟨h.1, h.2.1⟩, h.2.2⟩, fun h => ⟨h.1.1, h.1.2, h.2⟩⟩
theorem c_sameCon (c d : MCon) : FCon Tryz.prog 98 [.ag c.enc, .ag d.enc] (fun r _ => r = .s (.bool (eqB c d))) := by
  rw [con_eqB]
  have hc := MCon.enc_eq c
  have hd := MCon.enc_eq d
  refine FCon.intro PM _ Tryz.func98 (by kernel_rfl) rfl _ Tryz.ntmps98 rfl [] (by decide +kernel) (by simp) (by simp) rfl (by first | rfl | simp only [go_sem]) ?_
  (have hWf := WFx.mk (ai @hc <| @hd); repeat' (first | refine zS ?_ | exact zE | with_reducible apply And.intro | refine zK (c_Equal_TyI c.arg d.arg) ?_ | with_reducible exact zB0 | with_reducible refine zB fun hb => ?_ | exact zC | refine zT ?_ | fail))
  all_goals refine sB ?_
  all_goals simp_all
theorem typ_eqB (c d : MType) : eqB c d = (c.name.toList == d.name.toList && (c.params == d.params) && eqB c.cons d.cons) := by
  rw [strEq, Bool.eq_iff_iff, Bool.and_eq_true, Bool.and_eq_true, eqB_iff, eqB_iff, eqB_iff, beq_iff_eq]
  obtain ⟨a, b, x⟩ := c
  obtain ⟨a', b', x'⟩ := d
  simp only [MType.mk.injEq]
  exact ⟨fun h => ⟨⟨h.1, h.2.1⟩, h.2.2⟩, fun h => ⟨h.1.1, h.1.2, h.2⟩⟩
theorem c_sameTyp (c d : MType) : FCon Tryz.prog 96 [.ag c.enc, .ag d.enc] (fun r _ => r = .s (.bool (eqB c d))) := by
  rw [typ_eqB]
  have hc := MType.enc_eq c
  have hd := MType.enc_eq d
  have e := c_EqualFunc_Con c.cons d.cons 98 rfl eqB (fun x _ y _ => c_sameCon x y)
  rw [eqF_eqB] at e
  refine FCon.intro PM _ Tryz.func96 (by kernel_rfl) rfl _ Tryz.ntmps96 rfl [] (by decide +kernel) (by simp) (by simp) rfl (by first | rfl | simp only [go_sem]) ?_
  (have hWf := WFx.mk (ai @hc <| @hd); repeat' (first | refine zS ?_ | exact zE | with_reducible apply And.intro | refine zK (e) ?_ | with_reducible exact zB0 | with_reducible refine zB fun hb => ?_ | exact zC | refine zT ?_ | fail))
  all_goals refine sB ?_
  all_goals simp_all
theorem c_sameTypes (xs ys : List MType) : FCon Tryz.prog 35 [.sl 3 (xs.map MType.enc), .sl 3 (ys.map MType.enc)] (fun r _ => r = .s (.bool (eqB xs ys))) := by
  have e := c_EqualFunc_Type xs ys 96 rfl eqB (fun x _ y _ => c_sameTyp x y)
  rw [eqF_eqB] at e
  refine FCon.intro PM _ Tryz.func35 (by kernel_rfl) rfl _ Tryz.ntmps35 rfl [] (by decide +kernel) (by simp) (by simp) rfl (by first | rfl | simp only [go_sem]) ?_
  (have hWf := f0; repeat' (first | refine zS ?_ | exact zE | with_reducible apply And.intro | refine zK (e) ?_ | with_reducible exact zB0 | with_reducible refine zB fun hb => ?_ | exact zC | refine zT ?_ | fail))
theorem pno_eqB (c d : DPNode) : eqB c d = (c.kind == d.kind && (c.n == d.n) && (c.s.toList == d.s.toList) && eqB c.kids d.kids) := by
  rw [strEq, Bool.eq_iff_iff, Bool.and_eq_true, Bool.and_eq_true, Bool.and_eq_true, eqB_iff, eqB_iff, eqB_iff, beq_iff_eq, beq_iff_eq]
  obtain ⟨a, b, x, y⟩ := c
  obtain ⟨a', b', x', y'⟩ := d
  simp only [DPNode.mk.injEq]
  exact ⟨fun h => ⟨⟨⟨h.1, h.2.1⟩, h.2.2.1⟩, h.2.2.2⟩, fun h => ⟨h.1.1.1, h.1.1.2, h.1.2, h.2⟩⟩
theorem c_samePNode (c d : DPNode) : FCon Tryz.prog 192 [.ag c.enc, .ag d.enc] (fun r _ => r = .s (.bool (eqB c d))) := by
  rw [pno_eqB]
  have hc := DPNode.enc_eq c
  have hd := DPNode.enc_eq d
  refine FCon.intro PM _ Tryz.func192 (by kernel_rfl) rfl _ Tryz.ntmps192 rfl [] (by decide +kernel) (by simp) (by simp) rfl (by first | rfl | simp only [go_sem]) ?_
  (have hWf := WFx.mk (ai @hc <| @hd); repeat' (first | refine zS ?_ | exact zE | with_reducible apply And.intro | refine zK (c_Equal_int c.kids d.kids) ?_ | with_reducible exact zB0 | with_reducible refine zB fun hb => ?_ | exact zC | refine zT ?_ | fail))
  all_goals refine sB ?_
  all_goals simp_all
theorem c_samePat (c d : MPat) : FCon Tryz.prog 104 [.ag c.enc, .ag d.enc] (fun r _ => r = .s (.bool (eqB c d))) := by
  have e := c_EqualFunc_PNode c.nodes d.nodes 192 rfl eqB (fun x _ y _ => c_samePNode x y)
  have hq : eqB c d = eqB c.nodes d.nodes := by
    rw [Bool.eq_iff_iff, eqB_iff, eqB_iff]
    exact ⟨fun h => by rw [h], fun h => by cases c; cases d; simp_all⟩
  rw [eqF_eqB, ← hq] at e
  have hc := MPat.enc_eq c
  have hd := MPat.enc_eq d
  refine FCon.intro PM _ Tryz.func104 (by kernel_rfl) rfl _ Tryz.ntmps104 rfl [] (by decide +kernel) (by simp) (by simp) rfl (by first | rfl | simp only [go_sem]) ?_
  (have hWf := WFx.mk (ai @hc <| @hd); repeat' (first | refine zS ?_ | exact zE | with_reducible apply And.intro | refine zK (e) ?_ | with_reducible exact zB0 | with_reducible refine zB fun hb => ?_ | exact zC | refine zT ?_ | fail))
def nz (x : MNode) : MNode := ⟨x.kind, 0, x.n, x.s, x.kids, x.pats⟩
theorem nod_eqB (c d : MNode) : eqB (nz c) (nz d) = (c.kind == d.kind && (c.n == d.n) && (c.s.toList == d.s.toList) && eqB c.kids d.kids && eqB c.pats d.pats) := by
  rw [strEq, Bool.eq_iff_iff, Bool.and_eq_true, Bool.and_eq_true, Bool.and_eq_true, Bool.and_eq_true, eqB_iff, eqB_iff, eqB_iff, eqB_iff, beq_iff_eq, beq_iff_eq]
  unfold nz
  simp only [MNode.mk.injEq, true_and]
  exact ⟨fun h => ⟨⟨⟨⟨h.1, h.2.1⟩, h.2.2.1⟩, h.2.2.2.1⟩, h.2.2.2.2⟩, fun h => ⟨h.1.1.1.1, h.1.1.1.2, h.1.1.2, h.1.2, h.2⟩⟩
theorem c_sameNode (c d : MNode) : FCon Tryz.prog 101 [.ag c.enc, .ag d.enc] (fun r _ => r = .s (.bool (eqB (nz c) (nz d)))) := by
  rw [nod_eqB]
  have hc := MNode.enc_eq c
  have hd := MNode.enc_eq d
  have e := c_EqualFunc_Pat c.pats d.pats 104 rfl eqB (fun x _ y _ => c_samePat x y)
  rw [eqF_eqB] at e
  refine FCon.intro PM _ Tryz.func101 (by kernel_rfl) rfl _ Tryz.ntmps101 rfl [] (by decide +kernel) (by simp) (by simp) rfl (by first | rfl | simp only [go_sem]) ?_
  (have hWf := WFx.mk (ai @hc <| @hd); repeat' (first | refine zS ?_ | exact zE | with_reducible apply And.intro | refine zK (e) ?_ | refine zK (c_Equal_int c.kids d.kids) ?_ | with_reducible exact zB0 | with_reducible refine zB fun hb => ?_ | exact zC | refine zT ?_ | fail))
  all_goals refine sB ?_
  all_goals simp_all
theorem eqF_map {α β : Type} (f : α → β) : ∀ xs ys : List α, eqF (fun x y => eqB (f x) (f y)) xs ys = eqB (xs.map f) (ys.map f) := fun xs ys => by
  rw [← eqF_eqB]
  induction xs generalizing ys with
  | nil => cases ys <;> rfl
  | cons x xs ih =>
    cases ys with
    | nil => rfl
    | cons y ys => rw [List.map_cons, List.map_cons, eqF, eqF, ih]
theorem c_sameNodes (xs ys : List MNode) : FCon Tryz.prog 36 [.sl 6 (xs.map MNode.enc), .sl 6 (ys.map MNode.enc)] (fun r _ => r = .s (.bool (eqB (xs.map nz) (ys.map nz)))) := by
  have e := c_EqualFunc_Node xs ys 101 rfl (fun x y => eqB (nz x) (nz y)) (fun x _ y _ => c_sameNode x y)
  rw [eqF_map] at e
  refine FCon.intro PM _ Tryz.func36 (by kernel_rfl) rfl _ Tryz.ntmps36 rfl [] (by decide +kernel) (by simp) (by simp) rfl (by first | rfl | simp only [go_sem]) ?_
  (have hWf := f0; repeat' (first | refine zS ?_ | exact zE | with_reducible apply And.intro | refine zK (e) ?_ | with_reducible exact zB0 | with_reducible refine zB fun hb => ?_ | exact zC | refine zT ?_ | fail))
end Go.Proofs.YtahdaknaoogpkaaGreat
