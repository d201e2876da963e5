import Derived.Test.YtgcdbmcoendcdaaGreatHFoldW
/- Fold of the reference, over the second engine. -/
set_option maxRecDepth 100000
set_option maxHeartbeats 8000000
namespace Go.Proofs.YtgcdbmcoendcdaaGreat
set_option linter.unusedVariables false
set_option linter.unusedSimpArgs false
open Go.RowKit Arb
theorem goodN_of {p : MProgram} (hs : p.sm) {t : ET} (ht : p.nodes = Arb.lay EI.node 0 t) (ok : okT t) (hz : t.size ≤ 600) : GoodN (labN 0 t) := by
  have h := st_lab t 0
  have hz2 := mapA_size MNode.inf (labN 0 t)
  rw [show mapA MNode.inf (labN 0 t) = t from h] at hz2
  exact ⟨by rw [h]; exact ok, by rw [h]; exact fdN_of hs ht ok hz, by omega⟩
theorem c_specFold_ok (p : MProgram) (ho : p.ok) (hs : p.sm) (hp : progM p = true) (t : ET) (ht : p.nodes = Arb.lay EI.node 0 t) (ok : okT t) (hz : t.size ≤ 600) : FCon Tryz.prog 7 [.ag p.enc] (fun r _ => r = .ag (foldPr p t).enc) := by
  have hc := c_specProgramOk p ho hs
  rw [hp, MProgram.enc_eq] at hc
  have hA := At.zero (f := EI.node) t
  rw [← ht] at hA
  have hsub := c_l09Sub p.types p.nodes (by have := congrArg List.length ht; rw [Arb.lay_len] at this; omega) t 0 hA (pats_okF t ok (by omega))
  have hsub : FCon Tryz.prog 26 [.ag [.sl 3 (p.types.map MType.enc), .sl 6 (p.nodes.map MNode.enc)], .s (.int .i64 0)] (fun r _ => r = .ag (subE (labN 0 t))) := hsub
  have hG := goodN_of hs ht ok hz
  have hfo := c_l09Fold _ hG
  have hly := (c_l03Lay (foldN (labN 0 t)) [] (by simpa using hG.fold.sz)).argNil
  rw [foldN_st, st_lab] at hly
  simp only [List.length_nil, List.nil_append] at hly
  have hln : (Arb.lay EI.node 0 (foldE t)).length ≤ 600 := by rw [Arb.lay_len]; have := foldE_size t; omega
  have hpr : (foldPr p t).enc = [.sl 3 (p.types.map MType.enc), .sl 6 ((Arb.lay EI.node 0 (foldE t)).map MNode.enc)] := rfl
  have htb := typesB_of hs
  have htl := htb.1
  refine FCon.ice ?_
  rw [hpr, MProgram.enc_eq]
  generalize Arb.lay EI.node 0 (foldE t) = ns at hly hln ⊢
  obtain ⟨a, l, ha⟩ : ∃ a l, labN 0 t = .mk a l := ⟨_, _, Arb.eta _⟩
  obtain ⟨b, r, hb'⟩ : ∃ a l, foldN (labN 0 t) = .mk a l := ⟨_, _, Arb.eta _⟩
  rw [hb', subE_mk] at hly
  rw [ha] at hsub hfo
  rw [ha] at hb'
  rw [hb', subE_mk, subE_mk] at hfo
  rw [subE_mk] at hsub
  clear hA ht ha hb' hG
  generalize p.types = ts at *
  generalize p.nodes = nds at *
  refine FCon.intro PM _ Tryz.func7 (by kernel_rfl) rfl _ Tryz.ntmps7 rfl [] (by decide +kernel) (by simp) (by simp) rfl (by first | rfl | simp only [go_sem]) ?_
  (have hWf := f0; repeat' (first | refine zS ?_ | exact zE | with_reducible apply And.intro | refine zK (hc) ?_ | refine zK (hsub) ?_ | refine zK (hfo) ?_ | refine zH hly ?_ | with_reducible exact zB0 | with_reducible refine zB fun hb => ?_ | exact zC | refine zT ?_ | fail))
  refine ACL_ac (AC_nil 3 0 777 (row := [.nil, .bs 1016 6 ns.length]) 63 3 (by simp only [go_sem, simprocAttr]) rfl (by decide) rfl (AC_go ?_))
  simp only [go_sem, simprocAttr]
  refine AC_loop (fun n σ => ∃ k : Nat, k ≤ ts.length ∧ n = ts.length - k ∧ σ.t 2 = .bx 2 0 ∧ σ.b 2 = some (.box [.nil, .nil]) ∧ σ.t 3 = .bx 3 0 ∧ σ.b 3 = some (.box [.bs 777 3 k, .bs 1016 6 ns.length]) ∧ σ.b 777 = some (.arr 63 3 ((ts.take k).map MType.own)) ∧ σ.b 1016 = some (.arr 55 6 (ns.map layRow)) ∧ σ.t 19 = .sl 3 (ts.map MType.enc) ∧ σ.t 20 = .s (.int .i64 ts.length) ∧ σ.t 21 = .s (.int .i64 k)) ts.length ⟨0, by omega, by omega, ?_⟩ ?_
  · simp only [go_sem, simprocAttr, Int.natCast_zero, List.take_zero, List.length_map]
  · rintro n σ ⟨k, hk, rfl, h2, b2, h3, b3, b7, b10, h19, h20, h21⟩ K' hK
    by_cases hlt : k < ts.length
    · have hx := getD_map MType.enc ts k hlt
      have he := MType.enc_eq ts[k]
      have hbb := htb.2 _ (List.getElem_mem hlt)
      have htl : (ts.take k).length = k := by rw [List.length_take]; omega
      have hts := List.take_succ_eq_append_getElem hlt
      have ho := MType.own_eq ts[k]
      generalize ts[k].name = nm at he ho
      generalize ts[k].params = pa at he ho
      generalize ts[k].cons = cs at he ho hbb
      have hcl := hbb.1
      (have hWf := WFx.mk (ai @h2 <| ai @b2 <| ai @h3 <| ai @b3 <| ai @b7 <| ai @b10 <| ai @h19 <| ai @h20 <| ai @h21 <| ai @hx <| @he); repeat' (first | refine zS ?_ | exact zE | with_reducible apply And.intro | with_reducible exact zB0 | with_reducible refine zB fun hb => ?_ | exact zC | refine zT ?_ | fail))
      refine AC_loop (fun n σ => ∃ j : Nat, j ≤ cs.length ∧ n = cs.length - j ∧ σ.t 2 = .bx 2 0 ∧ σ.b 2 = some (.box [.nil, .nil]) ∧ σ.t 3 = .bx 3 0 ∧ σ.b 3 = some (.box [.bs 777 3 k, .bs 1016 6 ns.length]) ∧ σ.b 777 = some (.arr 63 3 ((ts.take k).map MType.own)) ∧ σ.b 1016 = some (.arr 55 6 (ns.map layRow)) ∧ σ.t 19 = .sl 3 (ts.map MType.enc) ∧ σ.t 20 = .s (.int .i64 ts.length) ∧ σ.t 21 = .s (.int .i64 k) ∧
        σ.t 5 = .bx 5 0 ∧ σ.b 5 = some (.box [.s (.string nm), .s (.int .i64 pa), .sl 3 (cs.map MCon.enc)]) ∧ σ.t 6 = .bs 25 3 j ∧ σ.b 25 = some (.arr 68 3 ((cs.take j).map MCon.own)) ∧ σ.t 27 = .sl 3 (cs.map MCon.enc) ∧ σ.t 28 = .s (.int .i64 cs.length) ∧ σ.t 29 = .s (.int .i64 j)) cs.length ⟨0, by omega, by omega, ?_⟩ ?_
      · simp only [go_sem, simprocAttr, h2, b2, h3, b3, b7, b10, h19, h20, h21, Int.natCast_zero, List.take_zero]
      · rintro n σ ⟨j, hj, rfl, h2, b2, h3, b3, b7, b10, h19, h20, h21, h5, b5, h6, b25, h27, h28, h29⟩ K'' hK'
        by_cases hlj : j < cs.length
        · have hx2 := getD_map MCon.enc cs j hlj
          have he2 := MCon.enc_eq cs[j]
          have ho2 := MCon.own_eq cs[j]
          have htl2 : (cs.take j).length = j := by rw [List.length_take]; omega
          have hts2 := List.take_succ_eq_append_getElem hlj
          have hal := hbb.2 _ (List.getElem_mem hlj)
          (have hWf := WFx.mk (ai @h2 <| ai @b2 <| ai @h3 <| ai @b3 <| ai @b7 <| ai @b10 <| ai @h19 <| ai @h20 <| ai @h21 <| ai @h5 <| ai @b5 <| ai @h6 <| ai @b25 <| ai @h27 <| ai @h28 <| ai @h29 <| ai @hx2 <| ai @he2 <| @htl2); repeat' (first | refine zS ?_ | exact zE | with_reducible apply And.intro | with_reducible exact zB0 | with_reducible refine zB fun hb => ?_ | exact zC | refine zT ?_ | fail))
          refine hK' (cs.length - (j + 1)) _ (by omega) ⟨j + 1, by omega, rfl, ?_⟩
          simp only [go_sem, simprocAttr, h2, b2, h3, b3, b7, b10, h19, h20, h21, h5, b5, h6, b25, h27, h28, h29, Int.natCast_succ, hts2, List.map_append, ho2]
        · obtain rfl : j = cs.length := by omega
          rw [List.take_length] at b25
          (have hWf := WFx.mk (ai @h2 <| ai @b2 <| ai @h3 <| ai @b3 <| ai @b7 <| ai @b10 <| ai @h19 <| ai @h20 <| ai @h21 <| ai @h5 <| ai @b5 <| ai @h6 <| ai @b25 <| ai @h27 <| ai @h28 <| ai @h29 <| @htl); repeat' (first | refine zS ?_ | exact zE | with_reducible apply And.intro | with_reducible exact zB0 | with_reducible refine zB fun hb => ?_ | exact zC | refine zT ?_ | fail))
          refine hK (ts.length - (k + 1)) _ (by omega) ⟨k + 1, by omega, rfl, ?_⟩
          simp only [go_sem, simprocAttr, h2, b2, h3, b3, b7, b10, h19, h20, h21, h5, b5, h6, b25, h27, h28, h29, Int.natCast_succ, hts, List.map_append, ho]
    · obtain rfl : k = ts.length := by omega
      rw [List.take_length] at b7
      have hfz : frzLL (ns.map layRow) = ns.map MNode.enc := by
        rw [frzLL_map, List.map_map]
        exact List.map_congr_left fun x _ => layRow_frz x
      (have hWf := WFx.mk (ai @h2 <| ai @b2 <| ai @h3 <| ai @b3 <| ai @b7 <| ai @b10 <| ai @h19 <| ai @h20 <| @h21); repeat' (first | refine zS ?_ | exact zE | with_reducible apply And.intro | with_reducible exact zB0 | with_reducible refine zB fun hb => ?_ | exact zC | refine zT ?_ | fail))
      all_goals simp only [frA, frz, frzL, MType.frzS, hfz]
      all_goals rfl
theorem FCon.agS2 {P : Program} {f : FuncId} {args : List D} {k1 k2 : Nat} (h : FCon P f args (fun r _ => r = .ag [.nil, .nil])) : FCon P f args (fun r _ => r = .ag [.sl k1 [], .sl k2 []]) := h.wk fun r o e => by
  subst e
  refine ⟨_, rfl, fun g w v q => ?_⟩
  obtain ⟨us, rfl, hl, hc⟩ := q
  refine ⟨us, rfl, by simpa using hl, fun l x u hx hu => ?_⟩
  match l, hx with
  | 0, hx => exact (by simpa using hx) ▸ Rep.nil_sl k1 (hc 0 _ u rfl hu)
  | 1, hx => exact (by simpa using hx) ▸ Rep.nil_sl k2 (hc 1 _ u rfl hu)
theorem c_specFold_bad (p : MProgram) (ho : p.ok) (hs : p.sm) (hp : progM p = false) : FCon Tryz.prog 7 [.ag p.enc] (fun r _ => r = .ag (MProgram.mk [] []).enc) := by
  have hc := c_specProgramOk p ho hs
  rw [hp, MProgram.enc_eq] at hc
  rw [MProgram.enc_eq]
  refine FCon.agS2 ?_
  refine FCon.intro PM _ Tryz.func7 (by kernel_rfl) rfl _ Tryz.ntmps7 rfl [] (by decide +kernel) (by simp) (by simp) rfl (by first | rfl | simp only [go_sem]) ?_
  (have hWf := f0; repeat' (first | refine zS ?_ | exact zE | with_reducible apply And.intro | refine zK (hc) ?_ | with_reducible exact zB0 | with_reducible refine zB fun hb => ?_ | exact zC | refine zT ?_ | fail))
end Go.Proofs.YtgcdbmcoendcdaaGreat
