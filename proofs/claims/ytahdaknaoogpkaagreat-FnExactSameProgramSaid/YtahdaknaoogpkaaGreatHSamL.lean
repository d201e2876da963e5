import Derived.Test.YtahdaknaoogpkaaGreatHSame
import Derived.Test.YtahdaknaoogpkaaGreatPgB
/- SameProgram of both; the law FnExactSameProgram over the second engine. -/
set_option maxRecDepth 100000
set_option maxHeartbeats 4000000
namespace Go.Proofs.YtahdaknaoogpkaaGreat
set_option linter.unusedVariables false
set_option linter.unusedSimpArgs false
open Go.RowKit Arb
theorem er_size : ∀ t : ET, (er t).size = t.size ∧ ∀ (b : Nat), (Arb.lay EI.node b t).map nz = Arb.lay EI.node b (er t) := fun t => by
  induction t using Arb.ind with
  | h a l ih =>
    have hs : sizeL (l.map er) = sizeL l := by
      clear a
      induction l with
      | nil => rfl
      | cons x l ihl => rw [List.map_cons, sizeL_cons, sizeL_cons, (ih x (by simp)).1, ihl fun y hy => ih y (List.mem_cons_of_mem _ hy)]
    have hi : ∀ b, idxs b (l.map er) = idxs b l := by
      clear a hs
      induction l with
      | nil => intro b; rfl
      | cons x l ihl =>
        intro b
        show (b : Int) :: idxs (b + (er x).size) (l.map er) = (b : Int) :: idxs (b + x.size) l
        rw [(ih x (by simp)).1, ihl fun y hy => ih y (List.mem_cons_of_mem _ hy)]
    have hl : ∀ b, (layL EI.node b l).map nz = layL EI.node b (l.map er) := by
      clear a hs hi
      induction l with
      | nil => intro b; rfl
      | cons x l ihl =>
        intro b
        rw [List.map_cons, layL_cons, layL_cons, List.map_append, (ih x (by simp)).2, (ih x (by simp)).1, ihl fun y hy => ih y (List.mem_cons_of_mem _ hy)]
    rw [er_mk]
    refine ⟨by rw [size_mk, size_mk, hs], fun b => ?_⟩
    rw [lay_mk, lay_mk, List.map_cons, hl, hi]; rfl
noncomputable def sameB (p q : MProgram) : Bool := eqB p.types q.types && eqB (p.nodes.map nz) (q.nodes.map nz)
theorem same_txt {p q : MProgram} {t u : ET} (h1 : ∀ x ∈ p.types, TyH x) (h2 : ∀ x ∈ q.types, TyH x) (o1 : okT t) (o2 : okT u) (e1 : p.nodes = Arb.lay EI.node 0 t) (e2 : q.nodes = Arb.lay EI.node 0 u) : sameB p q = ((progT p t).toList == (progT q u).toList) := by
  rw [strEq, Bool.eq_iff_iff, eqB_iff, progT_iff h1 h2 o1 o2]
  unfold sameB
  rw [Bool.and_eq_true, eqB_iff, eqB_iff, e1, e2, (er_size t).2, (er_size u).2]
  exact ⟨fun h => ⟨h.1, lay_inj0 EI.node_inj h.2⟩, fun h => ⟨h.1, by rw [h.2]⟩⟩
theorem same_both (p q : MProgram) (hp : p.ok) (sp : p.sm) (hq : q.ok) (sq : q.sm) : ∃ b : Bool, FCon Tryz.prog 12 [.ag p.enc, .ag q.enc] (fun r _ => r = .s (.bool b)) ∧ FCon Tryz.prog 10 [.ag p.enc, .ag q.enc] (fun r _ => r = .s (.bool b)) := by
  have i1 := c_implProgramOk p hp sp
  have i2 := c_implProgramOk q hq sq
  have j1 := c_specProgramOk p hp sp
  have j2 := c_specProgramOk q hq sq
  have hpe := MProgram.enc_eq p
  have hqe := MProgram.enc_eq q
  cases h1 : progM p with
  | false =>
    rw [h1, hpe] at i1 j1
    refine ⟨false, ?_, ?_⟩
    · refine FCon.intro PM _ Tryz.func12 (by kernel_rfl) rfl _ Tryz.ntmps12 rfl [] (by decide +kernel) (by simp) (by simp) rfl (by first | rfl | simp only [go_sem]) ?_
      (have hWf := WFx.mk (ai @hpe <| @hqe); repeat' (first | refine zS ?_ | exact zE | with_reducible apply And.intro | refine zK (i1) ?_ | with_reducible exact zB0 | with_reducible refine zB fun hb => ?_ | exact zC | refine zT ?_ | fail))
    · refine FCon.intro PM _ Tryz.func10 (by kernel_rfl) rfl _ Tryz.ntmps10 rfl [(1, 10, [], [], (lin [] [0, 1, 2, 3, 4, 5, 6, 7, 8, 9]))] (by decide +kernel) (by simp) (by simp) rfl (by first | rfl | simp only [go_sem]) ?_
      (have hWf := WFx.mk (ai @hpe <| @hqe); repeat' (first | refine zS ?_ | exact zE | with_reducible apply And.intro | refine zK (j1) ?_ | with_reducible exact zB0 | with_reducible refine zB fun hb => ?_ | exact zC | refine zT ?_ | fail))
  | true =>
    rw [h1, hpe] at i1 j1
    cases h2 : progM q with
    | false =>
      rw [h2, hqe] at i2 j2
      refine ⟨false, ?_, ?_⟩
      · refine FCon.intro PM _ Tryz.func12 (by kernel_rfl) rfl _ Tryz.ntmps12 rfl [] (by decide +kernel) (by simp) (by simp) rfl (by first | rfl | simp only [go_sem]) ?_
        (have hWf := WFx.mk (ai @hpe <| @hqe); repeat' (first | refine zS ?_ | exact zE | with_reducible apply And.intro | refine zK (i1) ?_ | refine zK (i2) ?_ | with_reducible exact zB0 | with_reducible refine zB fun hb => ?_ | exact zC | refine zT ?_ | fail))
      · refine FCon.intro PM _ Tryz.func10 (by kernel_rfl) rfl _ Tryz.ntmps10 rfl [(1, 10, [], [], (lin [] [0, 1, 2, 3, 4, 5, 6, 7, 8, 9]))] (by decide +kernel) (by simp) (by simp) rfl (by first | rfl | simp only [go_sem]) ?_
        (have hWf := WFx.mk (ai @hpe <| @hqe); repeat' (first | refine zS ?_ | exact zE | with_reducible apply And.intro | refine zK (j1) ?_ | refine zK (j2) ?_ | with_reducible exact zB0 | with_reducible refine zB fun hb => ?_ | exact zC | refine zT ?_ | fail))
    | true =>
      rw [h2, hqe] at i2 j2
      obtain ⟨t, ht, ok, hz, h8, hty⟩ := tree_of h1
      obtain ⟨u, hu, ok2, hz2, h82, hty2⟩ := tree_of h2
      have k1 := c_specPrint_ok p hp sp h1 t ht ok hz h8 hty
      have k2 := c_specPrint_ok q hq sq h2 u hu ok2 hz2 h82 hty2
      rw [hpe] at k1
      rw [hqe] at k2
      have e := same_txt (fun x hx => typeM_h (List.all_eq_true.1 hty x hx)) (fun x hx => typeM_h (List.all_eq_true.1 hty2 x hx)) ok ok2 ht hu
      refine ⟨sameB p q, ?_, ?_⟩
      · unfold sameB
        have m1 := c_sameTypes p.types q.types
        have m2 := c_sameNodes p.nodes q.nodes
        cases b1 : eqB p.types q.types with
        | false =>
          rw [b1] at m1
          refine FCon.intro PM _ Tryz.func12 (by kernel_rfl) rfl _ Tryz.ntmps12 rfl [] (by decide +kernel) (by simp) (by simp) rfl (by first | rfl | simp only [go_sem]) ?_
          (have hWf := WFx.mk (ai @hpe <| @hqe); repeat' (first | refine zS ?_ | exact zE | with_reducible apply And.intro | refine zK (i1) ?_ | refine zK (i2) ?_ | refine zK (m1) ?_ | with_reducible exact zB0 | with_reducible refine zB fun hb => ?_ | exact zC | refine zT ?_ | fail))
        | true =>
          rw [b1] at m1
          rw [Bool.true_and]
          refine FCon.intro PM _ Tryz.func12 (by kernel_rfl) rfl _ Tryz.ntmps12 rfl [] (by decide +kernel) (by simp) (by simp) rfl (by first | rfl | simp only [go_sem]) ?_
          (have hWf := WFx.mk (ai @hpe <| @hqe); repeat' (first | refine zS ?_ | exact zE | with_reducible apply And.intro | refine zK (i1) ?_ | refine zK (i2) ?_ | refine zK (m1) ?_ | refine zK (m2) ?_ | with_reducible exact zB0 | with_reducible refine zB fun hb => ?_ | exact zC | refine zT ?_ | fail))
      · rw [e]
        refine FCon.intro PM _ Tryz.func10 (by kernel_rfl) rfl _ Tryz.ntmps10 rfl [(1, 10, [], [], (lin [] [0, 1, 2, 3, 4, 5, 6, 7, 8, 9]))] (by decide +kernel) (by simp) (by simp) rfl (by first | rfl | simp only [go_sem]) ?_
        (have hWf := WFx.mk (ai @hpe <| @hqe); repeat' (first | refine zS ?_ | exact zE | with_reducible apply And.intro | refine zK (j1) ?_ | refine zK (j2) ?_ | refine zK (k1) ?_ | refine zK (k2) ?_ | with_reducible exact zB0 | with_reducible refine zB fun hb => ?_ | exact zC | refine zT ?_ | fail))
theorem c_FnExactSameProgram (p q : MProgram) (hop : p.ok) (hoq : q.ok) : FCon Tryz.prog 3 [.ag p.enc, .ag q.enc] (fun r _ => r = .s (.bool true)) := by
  by_cases hz : p.tot ≤ 1048576
  · have hs := MProgram.sm_of hz
    have tp := c_toProgram p hs
    have ep := c_eqProgram p
    by_cases hz2 : q.tot ≤ 1048576
    · have hs2 := MProgram.sm_of hz2
      obtain ⟨b, ci, cs⟩ := same_both p q hop hs hoq hs2
      have tq := c_toProgram q hs2
      have eq := c_eqProgram q
      refine FCon.intro PM _ Tryz.func3 (by kernel_rfl) rfl _ Tryz.ntmps3 rfl [(8, 3, [], [], (lin [] [0, 1, 2])), (14, 3, [], [], (lin [] [0, 1, 2])), (16, 3, [], [], (lin [] [0, 1, 2]))] (by decide +kernel) (by simp) (by simp) rfl (by first | rfl | simp only [go_sem]) ?_
      (have hWf := WFx.mk (ai @MProgram.enc_eq <| ai @MProgram.own_eq <| ai @pure_tupL <| @pure_agL); repeat' (first | refine zS ?_ | exact zE | with_reducible apply And.intro | ((with_reducible apply q_CallG); refine CallG_mk (d_szProgram p hop 1048576 (by omega) (by omega)) ?_; rintro _ _ ⟨z, rfl, za, zb, zc⟩) | ((with_reducible apply q_CallQ); refine CallQ_mk (d_szProgram p hop 1048576 (by omega) (by omega)) ?_) | ((with_reducible apply q_CallG); refine CallG_mk (d_szProgram q hoq _ (by omega) (by omega)) ?_; rintro _ _ ⟨y, rfl, ya, yb, yc⟩) | ((with_reducible apply q_CallQ); refine CallQ_mk (d_szProgram q hoq _ (by omega) (by omega)) ?_) | refine zK (tp) ?_ | refine zK (tq) ?_ | refine zK (cs) ?_ | refine zK (ci) ?_ | refine zK (ep) ?_ | refine zK (eq) ?_ | with_reducible exact zB0 | with_reducible refine zB fun hb => ?_ | exact zC | refine zT ?_ | fail))
    · refine FCon.intro PM _ Tryz.func3 (by kernel_rfl) rfl _ Tryz.ntmps3 rfl [(8, 3, [], [], (lin [] [0, 1, 2])), (14, 3, [], [], (lin [] [0, 1, 2])), (16, 3, [], [], (lin [] [0, 1, 2]))] (by decide +kernel) (by simp) (by simp) rfl (by first | rfl | simp only [go_sem]) ?_
      (have hWf := WFx.mk @MProgram.enc_eq; repeat' (first | refine zS ?_ | exact zE | with_reducible apply And.intro | ((with_reducible apply q_CallG); refine CallG_mk (d_szProgram p hop 1048576 (by omega) (by omega)) ?_; rintro _ _ ⟨z, rfl, za, zb, zc⟩) | ((with_reducible apply q_CallQ); refine CallQ_mk (d_szProgram p hop 1048576 (by omega) (by omega)) ?_) | ((with_reducible apply q_CallG); refine CallG_mk (d_szProgram q hoq _ (by omega) (by omega)) ?_; rintro _ _ ⟨y, rfl, ya, yb, yc⟩) | ((with_reducible apply q_CallQ); refine CallQ_mk (d_szProgram q hoq _ (by omega) (by omega)) ?_) | with_reducible exact zB0 | with_reducible refine zB fun hb => ?_ | exact zC | refine zT ?_ | fail))
      all_goals exact absurd (by have := yc (by omega); omega) hz2
  · refine FCon.intro PM _ Tryz.func3 (by kernel_rfl) rfl _ Tryz.ntmps3 rfl [(8, 3, [], [], (lin [] [0, 1, 2])), (14, 3, [], [], (lin [] [0, 1, 2])), (16, 3, [], [], (lin [] [0, 1, 2]))] (by decide +kernel) (by simp) (by simp) rfl (by first | rfl | simp only [go_sem]) ?_
    (have hWf := WFx.mk @MProgram.enc_eq; repeat' (first | refine zS ?_ | exact zE | with_reducible apply And.intro | ((with_reducible apply q_CallG); refine CallG_mk (d_szProgram p hop 1048576 (by omega) (by omega)) ?_; rintro _ _ ⟨z, rfl, za, zb, zc⟩) | ((with_reducible apply q_CallQ); refine CallQ_mk (d_szProgram p hop 1048576 (by omega) (by omega)) ?_) | ((with_reducible apply q_CallG); refine CallG_mk (d_szProgram q hoq _ (by omega) (by omega)) ?_; rintro _ _ ⟨y, rfl, ya, yb, yc⟩) | ((with_reducible apply q_CallQ); refine CallQ_mk (d_szProgram q hoq _ (by omega) (by omega)) ?_) | with_reducible exact zB0 | with_reducible refine zB fun hb => ?_ | exact zC | refine zT ?_ | fail))
    all_goals exact absurd (by have := zc (by omega); omega) hz
end Go.Proofs.YtahdaknaoogpkaaGreat
