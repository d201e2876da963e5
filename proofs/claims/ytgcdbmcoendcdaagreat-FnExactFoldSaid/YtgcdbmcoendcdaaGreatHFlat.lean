import Derived.Test.YtgcdbmcoendcdaaGreatExB
/- Trees laid down, types copied, over the second engine. -/
set_option maxRecDepth 100000
set_option maxHeartbeats 4000000
namespace Go.Proofs.YtgcdbmcoendcdaaGreat
set_option linter.unusedVariables false
set_option linter.unusedSimpArgs false
open Go.RowKit Arb
theorem FCon.argNil {P : Program} {f : FuncId} {e k : Nat} {args : List D} {Rs : D → List D → Prop} (h : FCon P f (.osl e k [] :: args) Rs) : FCon P f (.nil :: args) Rs :=
  ⟨h.ent, fun w g vs h1 h2 h3 h4 => h.run w g vs h1 h2 (by simpa using h3) (fun j d u hd hu => by
    cases j with
    | zero =>
      simp at hd; subst hd
      exact Rep.nil_osl e k (show Rep g.S g.up w (some (.par 0 0)) .nil u from h4 0 _ u rfl hu)
    | succ j => exact h4 (j + 1) d u (by simpa using hd) hu)⟩
theorem exS_mk2 (b : EI) (r : List ET) : exS (.mk b r) = [.pt [.s (.int .i64 b.kind), .s (.int .i64 b.at_), .s (.int .i64 b.n), .s (.string b.s), .sl 1 (r.map exS), .sl 1 (b.pats.map MPat.enc)]] := by show [exE _] = _; rw [exE_mk]
def layC (rows : List (List D)) (a : EI) (l : List ET) : List (List D) := rows ++ [.s (.int .i64 a.kind), .s (.int .i64 a.at_), .s (.int .i64 a.n), .s (.string a.s), .nil, .osl 89 1 (a.pats.map MPat.own)] :: (layL EI.node (rows.length + 1) l).map MNode.own
theorem layC_len (rows : List (List D)) (a : EI) (l : List ET) : (layC rows a l).length = rows.length + 1 + sizeL l := by
  unfold layC; rw [List.length_append, List.length_cons, List.length_map, layL_len]; omega
theorem layC_nil (rows : List (List D)) (a : EI) : layC rows a [] = rows ++ [[.s (.int .i64 a.kind), .s (.int .i64 a.at_), .s (.int .i64 a.n), .s (.string a.s), .nil, .osl 89 1 (a.pats.map MPat.own)]] := rfl
theorem layC_succ (rows : List (List D)) (a : EI) (l : List ET) (k : Nat) (h : k < l.length) : layC rows a (l.take (k + 1)) = layC rows a (l.take k) ++ (Arb.lay EI.node (layC rows a (l.take k)).length l[k]).map MNode.own := by
  rw [layC_len]
  unfold layC
  rw [List.take_succ_eq_append_getElem h, layL_app, layL_cons, layL_nil, List.append_nil, List.map_append, List.append_assoc, List.cons_append]
theorem layC_get (rows : List (List D)) (a : EI) (l : List ET) : (layC rows a l).getD rows.length [] = [.s (.int .i64 a.kind), .s (.int .i64 a.at_), .s (.int .i64 a.n), .s (.string a.s), .nil, .osl 89 1 (a.pats.map MPat.own)] := by
  unfold layC
  rw [List.getD_eq_getElem?_getD, List.getElem?_append_right (Nat.le_refl _), Nat.sub_self]; rfl
theorem layC_set (rows : List (List D)) (a : EI) (l : List ET) : (layC rows a l).set rows.length [.s (.int .i64 a.kind), .s (.int .i64 a.at_), .s (.int .i64 a.n), .s (.string a.s), .osl 3 1 ((idxs (rows.length + 1) l).map iE), .osl 89 1 (a.pats.map MPat.own)] = rows ++ (Arb.lay EI.node rows.length (.mk a l)).map MNode.own := by
  unfold layC
  rw [List.set_append_right _ _ (Nat.le_refl _), Nat.sub_self, List.set_cons_zero, lay_mk, List.map_cons]; rfl
theorem sizeL_take (l : List ET) (k : Nat) : sizeL (l.take k) ≤ sizeL l := by
  have e := congrArg sizeL (List.take_append_drop k l)
  rw [sizeL_app] at e
  omega
theorem sizeL_split2 {l : List ET} {k : Nat} (h : k < l.length) : sizeL (l.take k) + l[k].size ≤ sizeL l := by
  have e := congrArg sizeL (List.take_append_drop k l)
  rw [sizeL_app, List.drop_eq_getElem_cons h, sizeL_cons] at e
  omega
theorem idxs_succ (b : Nat) (l : List ET) (k : Nat) (h : k < l.length) : idxs b (l.take (k + 1)) = idxs b (l.take k) ++ [((b + sizeL (l.take k) : Nat) : Int)] := by
  rw [List.take_succ_eq_append_getElem h, idxs_app]; rfl
theorem c_flat : ∀ t : ET, All (fun a _ => patsB a.pats) t → ∀ rows : List (List D), rows.length + t.size ≤ 1000000 → FCon Tryz.prog 77 [.osl 55 6 rows, exE t] (fun r o => r = .tup [.osl 55 6 (rows ++ (Arb.lay EI.node rows.length t).map MNode.own), .s (.int .i64 rows.length)] ∧ o = [.un, .un]) := fun t => by
  induction t using Arb.ind with
  | h a l ih =>
    intro hA rows hs
    rw [size_mk] at hs
    have hll := sizeL_len l
    have hp := hA.root
    have hcp := c_copyPats a.pats hp.1 hp.2
    rw [exE_mk]
    refine FCon.intro PM _ Tryz.func77 (by kernel_rfl) rfl _ Tryz.ntmps77 rfl [(2, 24, [21, 22, 23], [(21, 0), (21, 1), (21, 2), (21, 3), (21, 4), (21, 5), (21, 6), (21, 7), (21, 8), (21, 9), (21, 10), (21, 11), (21, 12), (21, 13), (21, 14), (21, 15), (21, 16), (22, 0), (23, 0)], (lin [21, 22, 23] [0, 1, 2, 3, 4, 5, 6, 7, 8, 9, 10, 11, 12, 13, 14, 15, 16, 17, 18, 19, 20, 21, 22, 23]))] (by decide +kernel) (by simp) (by simp) rfl (by first | rfl | simp only [go_sem]) ?_
    (have hWf := f0; repeat' (first | refine zS ?_ | exact zE | with_reducible apply And.intro | ((with_reducible apply q_CallE); refine CallE_mk (FCon.noout hcp) ?_) | ((with_reducible apply q_CallG); refine zG (hcp) ?_) | with_reducible exact zB0 | with_reducible refine zB fun hb => ?_ | exact zC | refine zT ?_ | fail))
    refine AC_loop (fun n σ => ∃ (k nm : Nat), (nm = 38 ∨ nm = 1052) ∧ k ≤ l.length ∧ n = l.length - k ∧ σ.t 0 = .bs nm 6 (layC rows a (l.take k)).length ∧ σ.t 6 = .s (.int .i64 rows.length) ∧ σ.t 7 = .bs 39 1 (idxs (rows.length + 1) (l.take k)).length ∧ σ.t 43 = .sl 1 (l.map exS) ∧ σ.t 44 = .s (.int .i64 l.length) ∧ σ.t 45 = .s (.int .i64 k) ∧
      σ.b nm = some (.arr 55 6 (layC rows a (l.take k))) ∧ σ.b 39 = some (.arr 3 1 ((idxs (rows.length + 1) (l.take k)).map iE)) ∧ σ.b 900000 = none) l.length ⟨0, 38, .inl rfl, by omega, by omega, ?_⟩ ?_
    · simp only [go_sem, simprocAttr, Int.natCast_zero, List.take_zero, layC_nil, List.length_append, idxs]
    · rintro n σ ⟨k, nm, hnm, hk, rfl, h0, h6, h7, h43, h44, h45, b0, b7, b9⟩ K' hK
      have hcl := layC_len rows a (l.take k)
      have hil := idxs_len (rows.length + 1) (l.take k)
      have hts := sizeL_take l k
      by_cases hlt : k < l.length
      · have hx := getD_map exS l k hlt
        obtain ⟨b, q, hbr⟩ : ∃ b q, l[k] = .mk b q := ⟨_, _, Arb.eta _⟩
        have he : exS l[k] = [.pt [.s (.int .i64 b.kind), .s (.int .i64 b.at_), .s (.int .i64 b.n), .s (.string b.s), .sl 1 (q.map exS), .sl 1 (b.pats.map MPat.enc)]] := by rw [hbr, exS_mk2]
        have hz := sizeL_split2 hlt
        have hi := ih l[k] (List.getElem_mem hlt) (hA.kid _ (List.getElem_mem hlt)) (layC rows a (l.take k)) (by omega)
        have hcs := layC_succ rows a l k hlt
        have his := idxs_succ (rows.length + 1) l k hlt
        rw [← hcs, show exE l[k] = .pt [.s (.int .i64 b.kind), .s (.int .i64 b.at_), .s (.int .i64 b.n), .s (.string b.s), .sl 1 (q.map exS), .sl 1 (b.pats.map MPat.enc)] by rw [hbr, exE_mk]] at hi
        have hle : (l.take k).length = k := by rw [List.length_take]; omega
        rcases hnm with rfl | rfl
        · (have hWf := WFx.mk (ai @h0 <| ai @h6 <| ai @h7 <| ai @h43 <| ai @h44 <| ai @h45 <| ai @b0 <| ai @b7 <| ai @b9 <| ai @hx <| @he); repeat' (first | refine zS ?_ | exact zE | with_reducible apply And.intro | refine zH hi ?_ | with_reducible exact zB0 | with_reducible refine zB fun hb => ?_ | exact zC | refine zT ?_ | fail))
          refine hK (l.length - (k + 1)) _ (by omega) ⟨k + 1, 1052, .inr rfl, by omega, rfl, ?_⟩
          simp only [go_sem, simprocAttr, h0, h6, h7, h43, h44, h45, b0, b7, b9, Int.natCast_succ, his, List.map_append, List.length_append, hcl]
          all_goals rfl
        · (have hWf := WFx.mk (ai @h0 <| ai @h6 <| ai @h7 <| ai @h43 <| ai @h44 <| ai @h45 <| ai @b0 <| ai @b7 <| ai @b9 <| ai @hx <| @he); repeat' (first | refine zS ?_ | exact zE | with_reducible apply And.intro | refine zH hi ?_ | with_reducible exact zB0 | with_reducible refine zB fun hb => ?_ | exact zC | refine zT ?_ | fail))
          refine hK (l.length - (k + 1)) _ (by omega) ⟨k + 1, 1052, .inr rfl, by omega, rfl, ?_⟩
          simp only [go_sem, simprocAttr, h0, h6, h7, h43, h44, h45, b0, b7, b9, Int.natCast_succ, his, List.map_append, List.length_append, hcl]
          all_goals rfl
      · obtain rfl : k = l.length := by omega
        rw [List.take_length] at h0 h7 b0 b7 hcl hil
        have hg := layC_get rows a l
        have hst := layC_set rows a l
        have hln : (layC rows a l).length = rows.length + (Arb.lay EI.node rows.length (.mk a l)).length := by rw [layC_len, Arb.lay_len, size_mk]; omega
        have htk : List.take (layC rows a l).length (rows ++ (Arb.lay EI.node rows.length (.mk a l)).map MNode.own) = rows ++ (Arb.lay EI.node rows.length (.mk a l)).map MNode.own := List.take_of_length_le (by rw [hln, List.length_append, List.length_map]; exact Nat.le_refl _)
        rcases hnm with rfl | rfl
        · (have hWf := WFx.mk (ai @h0 <| ai @h6 <| ai @h7 <| ai @h43 <| ai @h44 <| ai @h45 <| ai @b0 <| ai @b7 <| ai @b9 <| ai @hg <| ai @hst <| @htk); repeat' (first | refine zS ?_ | exact zE | with_reducible apply And.intro | with_reducible exact zB0 | with_reducible refine zB fun hb => ?_ | exact zC | refine zT ?_ | fail))
          all_goals exact Nat.le_of_eq hln
        · (have hWf := WFx.mk (ai @h0 <| ai @h6 <| ai @h7 <| ai @h43 <| ai @h44 <| ai @h45 <| ai @b0 <| ai @b7 <| ai @b9 <| ai @hg <| ai @hst <| @htk); repeat' (first | refine zS ?_ | exact zE | with_reducible apply And.intro | with_reducible exact zB0 | with_reducible refine zB fun hb => ?_ | exact zC | refine zT ?_ | fail))
          all_goals exact Nat.le_of_eq hln
def typesB (ts : List MType) : Prop := ts.length ≤ 1048576 ∧ ∀ t ∈ ts, t.cons.length ≤ 1048576 ∧ ∀ c ∈ t.cons, c.arg.length ≤ 1048576
theorem c_copyTypes (ts : List MType) (hb : typesB ts) : FCon Tryz.prog 78 [.sl 3 (ts.map MType.enc)] (fun r _ => r = .osl 63 3 (ts.map MType.own)) := by
  have hl := hb.1
  refine FCon.intro PM _ Tryz.func78 (by kernel_rfl) rfl _ Tryz.ntmps78 rfl [(9, 7, [6], [(6, 0), (6, 1), (6, 2)], (lin [6] [0, 1, 2, 3, 4, 5, 6]))] (by decide +kernel) (by simp) (by simp) rfl (by first | rfl | simp only [go_sem]) ?_
  (have hWf := f0; repeat' (first | refine zS ?_ | exact zE | with_reducible apply And.intro | with_reducible exact zB0 | with_reducible refine zB fun hb => ?_ | exact zC | refine zT ?_ | fail))
  refine AC_loop (fun n σ => ∃ k : Nat, k ≤ ts.length ∧ n = ts.length - k ∧ σ.t 3 = .bs 8 3 k ∧ σ.b 8 = some (.arr 63 3 ((ts.take k).map MType.own)) ∧ σ.t 9 = .sl 3 (ts.map MType.enc) ∧ σ.t 10 = .s (.int .i64 ts.length) ∧ σ.t 11 = .s (.int .i64 k)) ts.length ⟨0, by omega, by omega, ?_⟩ ?_
  · simp only [go_sem, simprocAttr, Int.natCast_zero, List.take_zero]
  · rintro n σ ⟨k, hk, rfl, h3, b8, h9, h10, h11⟩ K' hK
    by_cases hlt : k < ts.length
    · have hx := getD_map MType.enc ts k hlt
      have he := MType.enc_eq ts[k]
      have hbb := hb.2 _ (List.getElem_mem hlt)
      generalize hn : ts[k].name = nm at he
      generalize hpa : ts[k].params = pa at he
      generalize hcs : ts[k].cons = cs at he hbb
      have hcl := c_Clone_Con cs (by omega)
      have htl : (ts.take k).length = k := by rw [List.length_take]; omega
      have hts := List.take_succ_eq_append_getElem hlt
      (have hWf := WFx.mk (ai @h3 <| ai @b8 <| ai @h9 <| ai @h10 <| ai @h11 <| ai @hx <| @he); repeat' (first | refine zS ?_ | exact zE | with_reducible apply And.intro | refine zK (hcl) ?_ | with_reducible exact zB0 | with_reducible refine zB fun hb => ?_ | exact zC | refine zT ?_ | fail))
      refine AC_loop (fun n σ => ∃ j : Nat, j ≤ cs.length ∧ n = cs.length - j ∧ σ.t 3 = .bs 8 3 k ∧ σ.b 8 = some (.arr 63 3 ((ts.take k).map MType.own)) ∧ σ.t 9 = .sl 3 (ts.map MType.enc) ∧ σ.t 10 = .s (.int .i64 ts.length) ∧ σ.t 11 = .s (.int .i64 k) ∧
        σ.t 5 = .bx 5 0 ∧ σ.b 5 = some (.box [.s (.string nm), .s (.int .i64 pa), .bs 1017 3 cs.length]) ∧ σ.t 20 = .bs 1017 3 cs.length ∧ σ.b 1017 = some (.arr 68 3 (mixR MCon.own MCon.enc cs j)) ∧ σ.t 21 = .s (.int .i64 cs.length) ∧ σ.t 22 = .s (.int .i64 j)) cs.length ⟨0, by omega, by omega, ?_⟩ ?_
      · simp only [go_sem, simprocAttr, h3, b8, h9, h10, h11, Int.natCast_zero, mixR_zero]
      · rintro n σ ⟨j, hj, rfl, h3, b8, h9, h10, h11, h5, b5, h20, b1, h21, h22⟩ K' hK'
        have hml := mixR_len (f := MCon.own) (g := MCon.enc) (l := cs) (k := j)
        by_cases hlj : j < cs.length
        · have hx := mixR_get (f := MCon.own) (g := MCon.enc) hlj
          have he := MCon.enc_eq cs[j]
          have hst := mixR_set (f := MCon.own) (g := MCon.enc) hlj
          rw [MCon.own_eq] at hst
          have hci := c_Clone_TyItem cs[j].arg (by have := hbb.2 _ (List.getElem_mem hlj); omega)
          (have hWf := WFx.mk (ai @h3 <| ai @b8 <| ai @h9 <| ai @h10 <| ai @h11 <| ai @h5 <| ai @b5 <| ai @h20 <| ai @b1 <| ai @h21 <| ai @h22 <| ai @hx <| ai @he <| ai @hml <| @hst); repeat' (first | refine zS ?_ | exact zE | with_reducible apply And.intro | ((with_reducible apply q_CallE); refine CallE_mk (FCon.noout hci) ?_) | ((with_reducible apply q_CallG); refine zG (hci) ?_) | with_reducible exact zB0 | with_reducible refine zB fun hb => ?_ | exact zC | refine zT ?_ | fail))
          refine hK' (cs.length - (j + 1)) _ (by omega) ⟨j + 1, by omega, rfl, ?_⟩
          simp only [go_sem, simprocAttr, h3, b8, h9, h10, h11, h5, b5, h20, b1, h21, h22, Int.natCast_succ, hst]
        · obtain rfl : j = cs.length := by omega
          rw [mixR_all] at b1
          have ho := MType.own_eq ts[k]
          rw [hn, hpa, hcs] at ho
          (have hWf := WFx.mk (ai @h3 <| ai @b8 <| ai @h9 <| ai @h10 <| ai @h11 <| ai @h5 <| ai @b5 <| ai @h20 <| ai @b1 <| ai @h21 <| ai @h22 <| @htl); repeat' (first | refine zS ?_ | exact zE | with_reducible apply And.intro | with_reducible exact zB0 | with_reducible refine zB fun hb => ?_ | exact zC | refine zT ?_ | fail))
          refine hK (ts.length - (k + 1)) _ (by omega) ⟨k + 1, by omega, rfl, ?_⟩
          simp only [go_sem, simprocAttr, h3, b8, h9, h10, h11, h5, b5, h20, b1, h21, h22, Int.natCast_succ, hts, List.map_append, ho]
    · obtain rfl : k = ts.length := by omega
      rw [List.take_length] at b8
      (have hWf := WFx.mk (ai @h3 <| ai @b8 <| ai @h9 <| ai @h10 <| @h11); repeat' (first | refine zS ?_ | exact zE | with_reducible apply And.intro | with_reducible exact zB0 | with_reducible refine zB fun hb => ?_ | exact zC | refine zT ?_ | fail))
theorem c_programOf (ts : List MType) (hb : typesB ts) (t : ET) (hA : All (fun a _ => patsB a.pats) t) (hs : t.size ≤ 1000000) : FCon Tryz.prog 29 [.sl 3 (ts.map MType.enc), exE t] (fun r _ => r = .ag [.osl 63 3 (ts.map MType.own), .osl 55 6 ((Arb.lay EI.node 0 t).map MNode.own)]) := by
  have hf := (c_flat t hA [] (by simpa using hs)).argNil
  have hc := c_copyTypes ts hb
  obtain ⟨a, l⟩ := t
  rw [exE_mk] at hf ⊢
  simp only [List.length_nil, List.nil_append, Int.natCast_zero] at hf
  refine FCon.intro PM _ Tryz.func29 (by kernel_rfl) rfl _ Tryz.ntmps29 rfl [] (by decide +kernel) (by simp) (by simp) rfl (by first | rfl | simp only [go_sem]) ?_
  (have hWf := f0; repeat' (first | refine zS ?_ | exact zE | with_reducible apply And.intro | refine zH hf ?_ | refine zK (hc) ?_ | with_reducible exact zB0 | with_reducible refine zB fun hb => ?_ | exact zC | refine zT ?_ | fail))
end Go.Proofs.YtgcdbmcoendcdaaGreat
