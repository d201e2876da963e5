import Derived.Test.YtahdaknaoogpkaaGreatHCompQ
import Derived.Test.YtahdaknaoogpkaaGreatPaB
import Derived.Test.YtahdaknaoogpkaaGreatPoB
import Derived.Test.YtahdaknaoogpkaaGreatCtB
/- The compiler of the reference, over the second engine: matches, all expressions, Compile. -/
set_option maxRecDepth 100000
set_option maxHeartbeats 8000000
namespace Go.Proofs.YtahdaknaoogpkaaGreat
set_option linter.unusedVariables false
set_option linter.unusedSimpArgs false
attribute [local go_sem] List.getD_cons_succ
open Go.RowKit Arb
theorem c_l10Match (T : List MType) (nodes : List MNode) (a : EI) (x : ET) (r : List ET) (m : Nat) (hA : At EI.node nodes m (.mk a (x :: r))) (ix : SE T nodes x) (ox : okT x) (ir : ∀ t ∈ r, SE T nodes t) (or : ∀ t ∈ r, okT t) (hpl : a.pats.length = r.length) (hpm : ∀ q ∈ a.pats, patM q.nodes = true) (env : List ByteArray) (s0 : CS) (hb : BdS (.mk a (x :: r)) env s0) :
    FCon Tryz.prog 124 [.opt (spD T nodes s0), .ag (a.node (idxs (m + 1) (x :: r))).enc, .sl 1 (env.map stE)] (fun r' o => r' = .tup [] ∧ o = [.opt (spD T nodes (matC (cmp false x) (a.pats.zip (r.map (cmp false))) env s0)), .un, .un]) := by
  obtain ⟨b1, b2, b3⟩ := hb
  simp only [size_mk, sizeL_cons] at b1 b2 b3
  have zx := size_pos x
  have hrl := sizeL_len r
  have he := node_enc a (idxs (m + 1) (x :: r))
  have hid : (idxs (m + 1) (x :: r)).map iE = [.s (.int .i64 ((m + 1 : Nat) : Int))] :: (idxs (m + 1 + x.size) r).map iE := rfl
  rw [hid] at he
  have hil := idxs_len (m + 1 + x.size) r
  have c1 := ix (m + 1) env s0 hA.kids.head ⟨by omega, by omega, by omega⟩
  have q1 := And.intro ((cmp_gr false x ox).lo env s0) (And.intro ((cmp_gr false x ox).hi env s0) ((cmp_gr false x ox).phi env s0))
  have hR : AtL EI.node nodes (m + 1 + x.size) r := hA.kids.tail
  unfold matC
  obtain ⟨s1, h1⟩ : ∃ q, q = cmp false x env s0 := ⟨_, rfl⟩
  rw [← h1] at c1 q1 ⊢
  clear h1
  rw [he]
  refine FCon.intro PM _ Tryz.func124 (by kernel_rfl) rfl _ Tryz.ntmps124 rfl [(6, 10, [9], [(9, 0)], (lin [9] [0, 1, 2, 3, 4, 5, 6, 7, 8, 9])), (20, 8, [], [], (lin [] [0, 1, 2, 3, 4, 5, 6, 7])), (26, 8, [], [], (lin [] [0, 1, 2, 3, 4, 5, 6, 7]))] (by decide +kernel) (by simp) (by simp) rfl (by first | rfl | simp only [go_sem]) ?_
  (have hWf := WFx.mk @spD_eq; repeat' (first | refine zS ?_ | exact zE | with_reducible apply And.intro | refine zH c1 ?_ | with_reducible exact zB0 | with_reducible refine zB fun hb => ?_ | exact zC | refine zT ?_ | fail))
  have hga := fun (k : Nat) => gr_arms false (a.pats.take k) (r.take k) (fun t ht => cmp_gr false t (or t (List.mem_of_mem_take ht))) env s1 []
  have hjs := arms_js (chk := false) a.pats r or env s1 [] (by simp)
  have hgA := gr_arms false a.pats r (fun t ht => cmp_gr false t (or t ht)) env s1 []
  have hjl := fun (k : Nat) (h : k ≤ r.length) => arms_jlen (chk := false) (a.pats.take k) (r.take k) env s1 [] (by simp; omega)
  have hzt := zip_take_z (chk := false) (qs := a.pats) (r := r)
  refine AC_loop (fun n σ => ∃ k : Nat, k ≤ a.pats.length ∧ n = a.pats.length - k ∧ σ.t 0 = .bx 900000 0 ∧ σ.t 2 = .sl 1 (env.map stE) ∧ σ.t 4 = .bx 4 0 ∧ σ.b 4 = some (.box [.s (.int .i64 a.kind), .s (.int .i64 a.at_), .s (.int .i64 a.n), .s (.string a.s), .sl 1 ([.s (.int .i64 ((m + 1 : Nat) : Int))] :: (idxs (m + 1 + x.size) r).map iE), .sl 1 (a.pats.map MPat.enc)]) ∧
    σ.t 6 = .bs 23 1 k ∧ σ.b 23 = some (.arr 3 1 ((armsC env ((a.pats.zip (r.map (cmp false))).take k) s1 []).2.map nE)) ∧ σ.t 25 = .sl 1 (a.pats.map MPat.enc) ∧ σ.t 26 = .s (.int .i64 a.pats.length) ∧ σ.t 27 = .s (.int .i64 k) ∧
    σ.b 900000 = some (.box [.sl 3 (T.map MType.enc), .sl 6 (nodes.map MNode.enc), .bs 3900000 4 (armsC env ((a.pats.zip (r.map (cmp false))).take k) s1 []).1.ins.length, .bs 4900000 1 (armsC env ((a.pats.zip (r.map (cmp false))).take k) s1 []).1.pats.length, .s (.bool (armsC env ((a.pats.zip (r.map (cmp false))).take k) s1 []).1.lost)]) ∧
    σ.b 3900000 = some (.arr 53 4 ((armsC env ((a.pats.zip (r.map (cmp false))).take k) s1 []).1.ins.map MIns.enc)) ∧ σ.b 4900000 = some (.arr 114 1 ((armsC env ((a.pats.zip (r.map (cmp false))).take k) s1 []).1.pats.map MPat.enc))) a.pats.length ⟨0, by omega, by omega, ?_⟩ ?_
  · simp only [go_sem, simprocAttr, Int.natCast_zero, List.take_zero, armsC]
  · rintro n σ ⟨k, hk, rfl, h0, h2, h4, c4, h6, c9, h25, h26, h27, c0, d1, d2⟩ K' hK
    by_cases hlt : k < a.pats.length
    · have hlr : k < r.length := by omega
      have hst := zip_take (chk := false) hlt hlr
      have hsu := arms_succ env a.pats[k] (cmp false r[k]) ((a.pats.zip (r.map (cmp false))).take k) s1 []
      rw [← hst] at hsu
      have g := hga k
      have jl := hjl k (by omega)
      rw [← hzt k] at g jl
      obtain ⟨S, hS⟩ : ∃ S, S = (armsC env ((a.pats.zip (r.map (cmp false))).take k) s1 []).1 := ⟨_, rfl⟩
      obtain ⟨J, hJ⟩ : ∃ J, J = (armsC env ((a.pats.zip (r.map (cmp false))).take k) s1 []).2 := ⟨_, rfl⟩
      rw [← hS] at c0 d1 d2 g hsu
      rw [← hJ] at c9 jl hsu
      have jl : J.length = k := by rw [jl, List.length_take]; simp; omega
      have hsp := sizeL_at hlr
      have zr := size_pos r[k]
      have hpo := hpm a.pats[k] (List.getElem_mem hlt)
      have hpn := pnames_len a.pats[k].nodes
      have hp6 := patM_len hpo
      have hpk := patM_kids hpo
      have hcp := c_l10Copy a.pats[k].nodes (by omega) (fun y hy => by have := hpk y hy; omega)
      have e1 := c_l10Put T nodes ⟨S.ins, S.pats ++ [a.pats[k]], S.lost⟩ 20 (((S.pats.length + 1 : Nat) : Int) - 1) 0 eS (by show S.ins.length ≤ _; omega)
      have ha0 : arm0 a.pats[k] S = (⟨S.ins, S.pats ++ [a.pats[k]], S.lost⟩ : CS).emit ⟨20, ((S.pats.length + 1 : Nat) : Int) - 1, 0, eS⟩ := by
        have : ((S.pats.length + 1 : Nat) : Int) - 1 = (S.pats.length : Int) := by omega
        rw [this]; rfl
      obtain ⟨S1, hS1⟩ : ∃ q, q = (⟨S.ins, S.pats ++ [a.pats[k]], S.lost⟩ : CS).emit ⟨20, ((S.pats.length + 1 : Nat) : Int) - 1, 0, eS⟩ := ⟨_, rfl⟩
      have p1 : S1.ins.length = S.ins.length + 1 := by rw [hS1, emit_len]
      have p1p : S1.pats.length = S.pats.length + 1 := by rw [hS1, emit_pats]; simp
      rw [← hS1] at e1 ha0
      simp only [spD_eq T nodes ⟨S.ins, S.pats ++ [a.pats[k]], S.lost⟩, List.map_append, List.map_cons, List.map_nil] at e1
      have e2 := ir r[k] (List.getElem_mem hlr) _ (env ++ pnames a.pats[k].nodes) S1 (hR.at k hlr) ⟨by omega, by omega, by rw [List.length_append]; omega⟩
      have q2 := And.intro ((cmp_gr false r[k] (or r[k] (List.getElem_mem hlr))).lo (env ++ pnames a.pats[k].nodes) S1) ((cmp_gr false r[k] (or r[k] (List.getElem_mem hlr))).hi (env ++ pnames a.pats[k].nodes) S1)
      obtain ⟨S2, hS2⟩ : ∃ q, q = cmp false r[k] (env ++ pnames a.pats[k].nodes) S1 := ⟨_, rfl⟩
      have hA1 : arm1 a.pats[k] (cmp false r[k]) env S = (S2.emit ⟨15, (pnames a.pats[k].nodes).length, 0, eS⟩).emit ⟨12, 0, 0, eS⟩ := by rw [hS2, ← ha0]; rfl
      rw [← hS2] at e2 q2
      have e3 := c_l10Put T nodes S2 15 (pnames a.pats[k].nodes).length 0 eS (by omega)
      obtain ⟨S3, hS3⟩ : ∃ q, q = S2.emit ⟨15, (pnames a.pats[k].nodes).length, 0, eS⟩ := ⟨_, rfl⟩
      have p3 : S3.ins.length = S2.ins.length + 1 := by rw [hS3, emit_len]
      rw [← hS3] at e3 hA1
      have e4 := c_l10Put T nodes S3 12 0 0 eS (by omega)
      obtain ⟨S4, hS4⟩ : ∃ q, q = S3.emit ⟨12, 0, 0, eS⟩ := ⟨_, rfl⟩
      have p4 : S4.ins.length = S3.ins.length + 1 := by rw [hS4, emit_len]
      rw [← hS4] at e4 hA1
      have e5 := c_l10Here T nodes S4
      have hAC : armC a.pats[k] (cmp false r[k]) env S = ⟨setB S4.ins S.ins.length S4.ins.length, S4.pats, S4.lost⟩ := by unfold armC; rw [hA1]
      rw [hAC] at hsu
      have hil3 : S.ins.length < S4.ins.length := by omega
      have hx3 := getD_map MIns.enc S4.ins S.ins.length hil3
      have he3 := MIns.enc_eq S4.ins[S.ins.length]
      have hst3 : (S4.ins.map MIns.enc).set S.ins.length [.s (.int .i64 S4.ins[S.ins.length].op), .s (.int .i64 S4.ins[S.ins.length].a), .s (.int .i64 S4.ins.length), .s (.string S4.ins[S.ins.length].s)] = (setB S4.ins S.ins.length S4.ins.length).map MIns.enc := by
        rw [setB_at' hil3, List.map_set]; rfl
      have hx2 := getD_map MPat.enc a.pats k hlt
      have hq := MPat.enc_eq a.pats[k]
      rw [hq] at e1
      have hlt2 : k < (idxs (m + 1 + x.size) r).length := by rw [hil]; exact hlr
      have hxi := getD_map iE (idxs (m + 1 + x.size) r) k hlt2
      have hei : iE (idxs (m + 1 + x.size) r)[k] = [.s (.int .i64 ((m + 1 + x.size + sizeL (r.take k) : Nat) : Int))] := by rw [idxs_at (m + 1 + x.size) r k hlr]; rfl
      have htn : ((k : Int) + 1).toNat = k + 1 := by omega
      have hsl := setB_len S4.ins S.ins.length S4.ins.length
      have hjn : S4.ins.length - 1 = S3.ins.length := by omega
      have htj : (J.map nE).take k = J.map nE := List.take_of_length_le (by rw [List.length_map]; omega)
      clear hS1 hS2 hS3 hS4 hA1 hAC ha0 hS hJ hjs hgA hga hjl
      (have hWf := WFx.mk (ai @spD_eq <| ai @h0 <| ai @h2 <| ai @h4 <| ai @c4 <| ai @h6 <| ai @c9 <| ai @h25 <| ai @h26 <| ai @h27 <| ai @c0 <| ai @d1 <| ai @d2 <| ai @hx2 <| @hq); repeat' (first | refine zS ?_ | exact zE | with_reducible apply And.intro | refine zK (hcp) ?_ | refine zH e1 ?_ | with_reducible exact zB0 | with_reducible refine zB fun hb => ?_ | exact zC | refine zT ?_ | fail))
      refine AC_loop (fun n σ => ∃ j : Nat, j ≤ a.pats[k].nodes.length ∧ n = a.pats[k].nodes.length - j ∧ σ.t 0 = .bx 900000 0 ∧ σ.t 2 = .sl 1 (env.map stE) ∧ σ.t 4 = .bx 4 0 ∧ σ.b 4 = some (.box [.s (.int .i64 a.kind), .s (.int .i64 a.at_), .s (.int .i64 a.n), .s (.string a.s), .sl 1 ([.s (.int .i64 ((m + 1 : Nat) : Int))] :: (idxs (m + 1 + x.size) r).map iE), .sl 1 (a.pats.map MPat.enc)]) ∧
        σ.t 6 = .bs 23 1 k ∧ σ.b 23 = some (.arr 3 1 (J.map nE)) ∧ σ.t 7 = .s (.int .i64 k) ∧ σ.t 9 = .s (.int .i64 S.ins.length) ∧ σ.t 10 = .sl 1 ((env ++ pnames (a.pats[k].nodes.take j)).map stE) ∧ σ.t 11 = .s (.int .i64 (pnames (a.pats[k].nodes.take j)).length) ∧ σ.t 25 = .sl 1 (a.pats.map MPat.enc) ∧ σ.t 26 = .s (.int .i64 a.pats.length) ∧ σ.t 27 = .s (.int .i64 k) ∧ σ.t 56 = .sl 4 (a.pats[k].nodes.map DPNode.enc) ∧ σ.t 57 = .s (.int .i64 a.pats[k].nodes.length) ∧ σ.t 58 = .s (.int .i64 j) ∧
        σ.b 900000 = some (.box [.sl 3 (T.map MType.enc), .sl 6 (nodes.map MNode.enc), .bs 3900000 4 S1.ins.length, .bs 4900000 1 S1.pats.length, .s (.bool S1.lost)]) ∧ σ.b 3900000 = some (.arr 53 4 (S1.ins.map MIns.enc)) ∧ σ.b 4900000 = some (.arr 114 1 (S1.pats.map MPat.enc))) a.pats[k].nodes.length ⟨0, by omega, by omega, ?_⟩ ?_
      · simp only [go_sem, simprocAttr, spD_eq, h0, h2, h4, c4, h6, c9, h25, h26, h27, c0, d1, d2, hx2, hq, Int.natCast_zero, List.take_zero, pnames, List.append_nil]
      · rintro n σ ⟨j, hj, rfl, g0, g2, g4, f4, g6, f9, g7, g9, g10, g11, g25, g26, g27, g56, g57, g58, f0, f1, f2⟩ K'' hK''
        by_cases hjl : j < a.pats[k].nodes.length
        · have hxn := getD_map DPNode.enc a.pats[k].nodes j hjl
          have hen := DPNode.enc_eq a.pats[k].nodes[j]
          have hps := pnames_succ hjl
          have hpl2 := pnames_len (a.pats[k].nodes.take j)
          rw [List.length_take] at hpl2
          by_cases h2k : a.pats[k].nodes[j].kind = 2
          · have e2k : (a.pats[k].nodes[j].kind == 2) = true := by simpa using h2k
            rw [if_pos h2k] at hps
            have cu := c_l10Under (env ++ pnames (a.pats[k].nodes.take j)) a.pats[k].nodes[j].s (by rw [List.length_append]; omega)
            rw [List.append_assoc, ← hps] at cu
            (have hWf := WFx.mk (ai @g0 <| ai @g2 <| ai @g4 <| ai @f4 <| ai @g6 <| ai @f9 <| ai @g7 <| ai @g9 <| ai @g10 <| ai @g11 <| ai @g25 <| ai @g26 <| ai @g27 <| ai @g56 <| ai @g57 <| ai @g58 <| ai @f0 <| ai @f1 <| ai @f2 <| ai @hxn <| ai @hen <| @e2k); repeat' (first | refine zS ?_ | exact zE | with_reducible apply And.intro | refine zK (cu) ?_ | with_reducible exact zB0 | with_reducible refine zB fun hb => ?_ | exact zC | refine zT ?_ | fail))
            refine hK'' (a.pats[k].nodes.length - (j + 1)) _ (by omega) ⟨j + 1, by omega, rfl, ?_⟩
            simp only [go_sem, simprocAttr, g0, g2, g4, f4, g6, f9, g7, g9, g10, g11, g25, g26, g27, g56, g57, g58, f0, f1, f2, Int.natCast_succ]
            all_goals (rw [hps]; exact sI_congr (by simp))
          · have e2k : (a.pats[k].nodes[j].kind == 2) = false := by simpa using h2k
            rw [if_neg h2k] at hps
            (have hWf := WFx.mk (ai @g0 <| ai @g2 <| ai @g4 <| ai @f4 <| ai @g6 <| ai @f9 <| ai @g7 <| ai @g9 <| ai @g10 <| ai @g11 <| ai @g25 <| ai @g26 <| ai @g27 <| ai @g56 <| ai @g57 <| ai @g58 <| ai @f0 <| ai @f1 <| ai @f2 <| ai @hxn <| ai @hen <| @e2k); repeat' (first | refine zS ?_ | exact zE | with_reducible apply And.intro | with_reducible exact zB0 | with_reducible refine zB fun hb => ?_ | exact zC | refine zT ?_ | fail))
            refine hK'' (a.pats[k].nodes.length - (j + 1)) _ (by omega) ⟨j + 1, by omega, rfl, ?_⟩
            simp only [go_sem, simprocAttr, g0, g2, g4, f4, g6, f9, g7, g9, g10, g11, g25, g26, g27, g56, g57, g58, f0, f1, f2, Int.natCast_succ, hps]
        · obtain rfl : j = a.pats[k].nodes.length := by omega
          rw [List.take_length] at g10 g11
          (have hWf := WFx.mk (ai @spD_eq <| ai @g0 <| ai @g2 <| ai @g4 <| ai @f4 <| ai @g6 <| ai @f9 <| ai @g7 <| ai @g9 <| ai @g10 <| ai @g11 <| ai @g25 <| ai @g26 <| ai @g27 <| ai @g56 <| ai @g57 <| ai @g58 <| ai @f0 <| ai @f1 <| ai @f2 <| ai @hxi <| ai @hei <| ai @hil <| ai @htn <| ai @hx3 <| ai @he3 <| ai @hst3 <| @hsl); repeat' (first | refine zS ?_ | exact zE | with_reducible apply And.intro | refine zH e2 ?_ | refine zH e3 ?_ | refine zH e4 ?_ | refine zK (e5) ?_ | with_reducible exact zB0 | with_reducible refine zB fun hb => ?_ | exact zC | refine zT ?_ | fail))
          refine hK (a.pats.length - (k + 1)) _ (by omega) ⟨k + 1, by omega, rfl, ?_⟩
          simp only [go_sem, simprocAttr, spD_eq, g0, g2, g4, f4, g6, f9, g7, g9, g10, g11, g25, g26, g27, g56, g57, g58, f0, f1, f2, Int.natCast_succ, hsu, List.map_append, hjn, nE_eq, hsl, htj]
    · obtain rfl : k = a.pats.length := by omega
      rw [zip_take_all (by omega)] at c0 c9 d1 d2
      have jl := hjl r.length (by omega)
      rw [List.take_length, hpl.symm, List.take_length] at jl
      obtain ⟨S, hS⟩ : ∃ S, S = (armsC env (a.pats.zip (r.map (cmp false))) s1 []).1 := ⟨_, rfl⟩
      obtain ⟨J, hJ⟩ : ∃ J, J = (armsC env (a.pats.zip (r.map (cmp false))) s1 []).2 := ⟨_, rfl⟩
      rw [← hS] at c0 d1 d2 hjs hgA ⊢
      rw [← hJ] at c9 hjs jl ⊢
      have e1 := c_l10Put T nodes S 21 0 0 eS (by omega)
      obtain ⟨S1, hS1⟩ : ∃ q, q = S.emit ⟨21, 0, 0, eS⟩ := ⟨_, rfl⟩
      have p1 : S1.ins.length = S.ins.length + 1 := by rw [hS1, emit_len]
      rw [← hS1] at e1 ⊢
      have jl : J.length = a.pats.length := by simpa using jl
      have hSb : S.ins.length ≤ 100000 := by omega
      clear hS hJ hga hgA hjl hzt hS1
      (have hWf := WFx.mk (ai @spD_eq <| ai @h0 <| ai @h2 <| ai @h4 <| ai @c4 <| ai @h6 <| ai @c9 <| ai @h25 <| ai @h26 <| ai @h27 <| ai @c0 <| ai @d1 <| ai @d2 <| @jl); repeat' (first | refine zS ?_ | exact zE | with_reducible apply And.intro | refine zH e1 ?_ | with_reducible exact zB0 | with_reducible refine zB fun hb => ?_ | exact zC | refine zT ?_ | fail))
      refine AC_loop (fun n σ => ∃ k : Nat, k ≤ J.length ∧ n = J.length - k ∧ σ.t 0 = .bx 900000 0 ∧ σ.b 23 = some (.arr 3 1 (J.map nE)) ∧ σ.t 102 = .bs 23 1 J.length ∧ σ.t 103 = .s (.int .i64 J.length) ∧ σ.t 104 = .s (.int .i64 k) ∧
        σ.b 900000 = some (.box [.sl 3 (T.map MType.enc), .sl 6 (nodes.map MNode.enc), .bs 3900000 4 (heresC S1 (J.take k)).ins.length, .bs 4900000 1 (heresC S1 (J.take k)).pats.length, .s (.bool (heresC S1 (J.take k)).lost)]) ∧
        σ.b 3900000 = some (.arr 53 4 ((heresC S1 (J.take k)).ins.map MIns.enc)) ∧ σ.b 4900000 = some (.arr 114 1 ((heresC S1 (J.take k)).pats.map MPat.enc))) J.length ⟨0, by omega, by omega, ?_⟩ ?_
      · simp only [go_sem, simprocAttr, spD_eq, h0, h2, h4, c4, h6, c9, h25, h26, h27, c0, d1, d2, jl, Int.natCast_zero, List.take_zero, heresC]
      · rintro n σ ⟨k, hk, rfl, g0, g19, g94, g95, g96, f0, f1, f2⟩ K'' hK''
        by_cases hlt : k < J.length
        · have hx := getD_map nE J k hlt
          have he := nE_eq J[k]
          have hj := hjs J[k] (List.getElem_mem hlt)
          have hh := heres_app (J.take k) S1 J[k]
          rw [← List.take_succ_eq_append_getElem hlt] at hh
          have hlen := (heres_len S1 (J.take k)).1
          obtain ⟨Q, hQ⟩ : ∃ Q, Q = heresC S1 (J.take k) := ⟨_, rfl⟩
          rw [← hQ] at hh hlen f0 f1 f2
          have e2 := c_l10Here T nodes Q
          have hiq : J[k] < Q.ins.length := by omega
          have hx3 := getD_map MIns.enc Q.ins J[k] hiq
          have he3 := MIns.enc_eq Q.ins[J[k]]
          have hw := here_set hiq
          have hn := here_len Q J[k]
          clear hQ
          (have hWf := WFx.mk (ai @spD_eq <| ai @g0 <| ai @g19 <| ai @g94 <| ai @g95 <| ai @g96 <| ai @f0 <| ai @f1 <| ai @f2 <| ai @hx <| ai @he <| ai @hx3 <| ai @he3 <| ai @hw <| @hn); repeat' (first | refine zS ?_ | exact zE | with_reducible apply And.intro | refine zK (e2) ?_ | with_reducible exact zB0 | with_reducible refine zB fun hb => ?_ | exact zC | refine zT ?_ | fail))
          refine hK'' (J.length - (k + 1)) _ (by omega) ⟨k + 1, by omega, rfl, ?_⟩
          simp only [go_sem, simprocAttr, g0, g19, g94, g95, g96, f0, f1, f2, Int.natCast_succ, spD_eq, hh, hn, here_pats, here_lost]
        · obtain rfl : k = J.length := by omega
          rw [List.take_length] at f0 f1 f2
          (have hWf := WFx.mk (ai @spD_eq <| ai @g0 <| ai @g19 <| ai @g94 <| ai @g95 <| ai @g96 <| ai @f0 <| ai @f1 <| @f2); repeat' (first | refine zS ?_ | exact zE | with_reducible apply And.intro | with_reducible exact zB0 | with_reducible refine zB fun hb => ?_ | exact zC | refine zT ?_ | fail))
          all_goals rfl
theorem exprS_mat (T : List MType) (nodes : List MNode) (a : EI) (x : ET) (r : List ET) (m : Nat) (hA : At EI.node nodes m (.mk a (x :: r))) (ix : SE T nodes x) (ox : okT x) (ir : ∀ t ∈ r, SE T nodes t) (or : ∀ t ∈ r, okT t) (hpl : a.pats.length = r.length) (hpm : ∀ q ∈ a.pats, patM q.nodes = true) (env : List ByteArray) (s0 : CS) (hb : BdS (.mk a (x :: r)) env s0) (k : a.kind = 13) :
    FCon Tryz.prog 46 [.opt (spD T nodes s0), .s (.int .i64 m), .sl 1 (env.map stE)] (fun r' o => r' = .tup [] ∧ o = [.opt (spD T nodes (cmp false (.mk a (x :: r)) env s0)), .un, .un]) := by
  have hx := node_at hA
  have he := node_enc a (idxs (m + 1) (x :: r))
  have hlt := hA.lt
  have hop : FCon Tryz.prog 119 [.s (.int .i64 13)] (fun r _ => r = .s (.int .i64 0)) := c_l10Op 13 (by omega)
  have c1 := c_l10Match T nodes a x r m hA ix ox ir or hpl hpm env s0 hb
  rw [cmp_mat (stop_no s0) k]
  obtain ⟨s1, h1⟩ : ∃ q, q = matC (cmp false x) (a.pats.zip (r.map (cmp false))) env s0 := ⟨_, rfl⟩
  rw [← h1] at c1 ⊢
  clear h1
  rw [he, k] at c1
  refine FCon.intro PM _ Tryz.func46 (by kernel_rfl) rfl _ Tryz.ntmps46 rfl [(36, 9, [], [], (lin [] [0, 1, 2, 3, 4, 5, 6, 7, 8])), (43, 8, [], [], (lin [] [0, 1, 2, 3, 4, 5, 6, 7])), (45, 8, [], [], (lin [] [0, 1, 2, 3, 4, 5, 6, 7])), (51, 8, [], [], (lin [] [0, 1, 2, 3, 4, 5, 6, 7])), (52, 9, [], [], (lin [] [0, 1, 2, 3, 4, 5, 6, 7, 8])), (54, 8, [], [], (lin [] [0, 1, 2, 3, 4, 5, 6, 7]))] (by decide +kernel) (by simp) (by simp) rfl (by first | rfl | simp only [go_sem]) ?_
  (have hWf := WFx.mk (ai @spD_eq <| ai @hx <| ai @he <| @k); repeat' (first | refine zS ?_ | exact zE | with_reducible apply And.intro | refine zK (hop) ?_ | refine zH c1 ?_ | with_reducible exact zB0 | with_reducible refine zB fun hb => ?_ | exact zC | refine zT ?_ | fail))
  all_goals first | rfl | skip
theorem c_l10Expr (T : List MType) (nodes : List MNode) : ∀ t : ET, okT t → SE T nodes t := fun t => by
  induction t using Arb.indS with
  | h t ih =>
    intro ok m env s hA hb
    obtain ⟨a, l⟩ := t
    have ok1 := ok.kid
    have ihk : ∀ t ∈ l, SE T nodes t := fun t ht => ih t (size_lt ht) (ok1 t ht)
    have v := ok.root.v
    cases v with
    | int k e => subst e; exact exprS_int T nodes a m env s hA hb k
    | str k e => subst e; exact exprS_str T nodes a m env s hA hb k
    | con0 k e => subst e; exact exprS_con0 T nodes a m env s hA hb k
    | cons b x y k e => subst e; exact exprS_con1 T nodes a _ (ihk _ (by simp)) (ok1 _ (by simp)) m env s hA hb k
    | con1 x k e => subst e; exact exprS_con1 T nodes a _ (ihk _ (by simp)) (ok1 _ (by simp)) m env s hA hb k
    | app x y k e hs => subst e; exact exprS_op T nodes a _ ok ihk m env s hA hb (by rw [k]; decide) (by unfold endI opK; simp [k, eS_of hs])
    | prim x y k e hs => subst e; exact exprS_op T nodes a _ ok ihk m env s hA hb (by rw [k]; decide) (by unfold endI opK; simp [k])
    | pair x y k e hs => subst e; exact exprS_op T nodes a _ ok ihk m env s hA hb (by rw [k]; decide) (by unfold endI opK; simp [k, eS_of hs])
    | unit k e => subst e; exact exprS_unit T nodes a m env s hA hb k
    | raise x k e hs => subst e; exact exprS_op T nodes a _ ok ihk m env s hA hb (by rw [k]; decide) (by unfold endI opK; simp [k, eS_of hs])
    | ref x k e hs => subst e; exact exprS_op T nodes a _ ok ihk m env s hA hb (by rw [k]; decide) (by unfold endI opK; simp [k, eS_of hs])
    | get x k e hs => subst e; exact exprS_op T nodes a _ ok ihk m env s hA hb (by rw [k]; decide) (by unfold endI opK; simp [k, eS_of hs])
    | set x y k e hs => subst e; exact exprS_op T nodes a _ ok ihk m env s hA hb (by rw [k]; decide) (by unfold endI opK; simp [k, eS_of hs])
    | var k e => subst e; exact exprS_var T nodes a m env s hA hb k
    | func x k e => subst e; exact exprS_func T nodes a x (ihk x (by simp)) (ok1 x (by simp)) m env s hA hb k
    | rec_ b x y k e =>
      subst e
      have okx := (ok1 (.mk b [x]) (by simp)).kid x (by simp)
      exact exprS_rec_ T nodes a b x y (ih x (size_lt2 (r := [x]) (by simp) (List.mem_cons_self ..)) okx) okx (ihk y (by simp)) (ok1 y (by simp)) m env s hA hb k
    | seq x y k e => subst e; exact exprS_seq T nodes a x y (ihk x (by simp)) (ok1 x (by simp)) (ihk y (by simp)) (ok1 y (by simp)) m env s hA hb k
    | let_ x y k e => subst e; exact exprS_let_ T nodes a x y (ihk x (by simp)) (ok1 x (by simp)) (ihk y (by simp)) (ok1 y (by simp)) m env s hA hb k
    | if_ x y z k e => subst e; exact exprS_if_ T nodes a x y z (ihk x (by simp)) (ok1 x (by simp)) (ihk y (by simp)) (ok1 y (by simp)) (ihk z (by simp)) (ok1 z (by simp)) m env s hA hb k
    | try_ x y k e => subst e; exact exprS_try_ T nodes a x y (ihk x (by simp)) (ok1 x (by simp)) (ihk y (by simp)) (ok1 y (by simp)) m env s hA hb k
    | mat x r k e hpl => subst e; exact exprS_mat T nodes a x r m hA (ihk x (by simp)) (ok1 x (by simp)) (fun t ht => ihk t (by simp [ht])) (fun t ht => ok1 t (by simp [ht])) hpl ok.root.pm env s hb k
def ansW (s : CS) : D := if s.lost = true then .tup [.ag [.sl 4 [], .sl 1 []], .s (.bool false)] else .tup [.ag [.sl 4 (s.ins.map MIns.enc), .sl 1 (s.pats.map MPat.enc)], .s (.bool true)]
theorem FCon.tagS {P : Program} {f : FuncId} {args : List D} {k k' : Nat} {c : D} (h : FCon P f args (fun r _ => r = .tup [.ag [.nil, .nil], c])) : FCon P f args (fun r _ => r = .tup [.ag [.sl k [], .sl k' []], c]) := h.wk fun r o q => by
  subst q
  refine ⟨_, rfl, fun g w v hv => RNs_tupN (xs := [.ag [.nil, .nil], c]) (xs' := [.ag [.sl k [], .sl k' []], c]) rfl (fun m x x' hx hx' u hu => ?_) hv⟩
  match m, hx, hx' with
  | 0, hx, hx' =>
    have hx : D.ag [.nil, .nil] = x := Option.some.inj hx
    have hx' : D.ag [.sl k [], .sl k' []] = x' := Option.some.inj hx'
    subst hx hx'
    refine RN_agN (ys := [.nil, .nil]) (ys' := [.sl k [], .sl k' []]) rfl (fun i d d' hd hd' => ?_) hu
    match i, hd, hd' with
    | 0, hd, hd' => exact .inr ⟨by simpa using hd.symm, .inr ⟨_, by simpa using hd'.symm⟩⟩
    | 1, hd, hd' => exact .inr ⟨by simpa using hd.symm, .inr ⟨_, by simpa using hd'.symm⟩⟩
    | i + 2, hd, hd' => simp at hd
  | 1, hx, hx' =>
    have hx : c = x := Option.some.inj hx
    have hx' : c = x' := Option.some.inj hx'
    subst hx hx'; exact hu
  | m + 2, hx, hx' => simp at hx
theorem c_specCompile_bad (p : MProgram) (ho : p.ok) (hs : p.sm) (hp : progM p = false) : FCon Tryz.prog 16 [.ag p.enc] (fun r _ => r = .tup [.ag [.sl 4 [], .sl 1 []], .s (.bool false)]) := by
  refine FCon.tagS ?_
  have hc := c_specProgramOk p ho hs
  rw [hp, MProgram.enc_eq] at hc
  rw [MProgram.enc_eq]
  refine FCon.intro PM _ Tryz.func16 (by kernel_rfl) rfl _ Tryz.ntmps16 rfl [] (by decide +kernel) (by simp) (by simp) rfl (by first | rfl | simp only [go_sem]) ?_
  (have hWf := f0; repeat' (first | refine zS ?_ | exact zE | with_reducible apply And.intro | refine zK (hc) ?_ | with_reducible exact zB0 | with_reducible refine zB fun hb => ?_ | exact zC | refine zT ?_ | fail))
theorem c_specCompile_ok (p : MProgram) (ho : p.ok) (hs : p.sm) (hp : progM p = true) (t : ET) (ht : p.nodes = Arb.lay EI.node 0 t) (ok : okT t) (hz : t.size ≤ 600) : FCon Tryz.prog 16 [.ag p.enc] (fun r _ => r = ansW (codeI false t)) := by
  have hc := c_specProgramOk p ho hs
  rw [hp, MProgram.enc_eq] at hc
  have hA := At.zero (f := EI.node) t
  rw [← ht] at hA
  have gr := cmp_gr false t ok
  have g1 := gr.hi [] ⟨[], [], false⟩
  have he := c_l10Expr p.types p.nodes t ok 0 [] ⟨[], [], false⟩ hA ⟨by show 0 + _ ≤ _; omega, by show 0 + _ ≤ _; omega, by show 0 + _ ≤ _; omega⟩
  have he := he.arg [.opt [.sl 3 (p.types.map MType.enc), .sl 6 (p.nodes.map MNode.enc), .nil, .nil, .s (.bool false)], .s (.int .i64 0), .nil] rfl fun j d' d h1 h2 g w u hu => by
    match j, h1, h2 with
    | 0, h1, h2 =>
      rw [← Option.some.inj h2]; rw [← Option.some.inj h1] at hu
      refine RA_optN (row := [.sl 3 (p.types.map MType.enc), .sl 6 (p.nodes.map MNode.enc), .nil, .nil, .s (.bool false)]) (row' := [.sl 3 (p.types.map MType.enc), .sl 6 (p.nodes.map MNode.enc), .osl 53 4 [], .osl 114 1 [], .s (.bool false)]) rfl (fun i d d' hd hd' => ?_) hu
      match i, hd, hd' with
      | 0, hd, hd' => exact .inl (by rw [← Option.some.inj hd, ← Option.some.inj hd'])
      | 1, hd, hd' => exact .inl (by rw [← Option.some.inj hd, ← Option.some.inj hd'])
      | 2, hd, hd' => exact .inr ⟨by simpa using hd.symm, .inl ⟨_, _, by simpa using hd'.symm⟩⟩
      | 3, hd, hd' => exact .inr ⟨by simpa using hd.symm, .inl ⟨_, _, by simpa using hd'.symm⟩⟩
      | 4, hd, hd' => exact .inl (by rw [← Option.some.inj hd, ← Option.some.inj hd'])
      | i + 5, hd, hd' => simp at hd
    | 1, h1, h2 => rw [← Option.some.inj h2]; rw [← Option.some.inj h1] at hu; exact hu
    | 2, h1, h2 =>
      rw [← Option.some.inj h2]; rw [← Option.some.inj h1] at hu
      exact RA_nilS hu
    | j + 3, h1, h2 => simp at h1
  obtain ⟨S, hS⟩ : ∃ S, S = cmp false t [] ⟨[], [], false⟩ := ⟨_, rfl⟩
  rw [← hS] at he g1
  have g1 : S.ins.length ≤ 0 + (4 * t.size - 3) := g1
  have e2 := c_l10Put p.types p.nodes S 11 0 0 eS (by omega)
  unfold codeI
  rw [← hS]
  obtain ⟨S2, hS2⟩ : ∃ q, q = S.emit ⟨11, 0, 0, eS⟩ := ⟨_, rfl⟩
  have p2 : S2.ins.length = S.ins.length + 1 := by rw [hS2, emit_len]
  rw [← hS2] at e2 ⊢
  clear hS hS2
  rw [MProgram.enc_eq]
  unfold ansW
  cases hl : S2.lost with
  | true =>
    rw [if_pos rfl]
    refine FCon.tagS ?_
    refine FCon.intro PM _ Tryz.func16 (by kernel_rfl) rfl _ Tryz.ntmps16 rfl [] (by decide +kernel) (by simp) (by simp) rfl (by first | rfl | simp only [go_sem]) ?_
    (have hWf := WFx.mk (ai @spD_eq <| @hl); repeat' (first | refine zS ?_ | exact zE | with_reducible apply And.intro | refine zK (hc) ?_ | refine zH he ?_ | refine zH e2 ?_ | with_reducible exact zB0 | with_reducible refine zB fun hb => ?_ | exact zC | refine zT ?_ | fail))
  | false =>
    rw [if_neg (by simp)]
    refine FCon.ice ?_
    have hh : FCon Tryz.prog 16 [.ag [.sl 3 (p.types.map MType.enc), .sl 6 (p.nodes.map MNode.enc)]] (fun r _ => r = .tup [.ag [.osl 53 4 (S2.ins.map MIns.enc), .osl 114 1 (S2.pats.map MPat.enc)], .s (.bool true)]) := by
      refine FCon.intro PM _ Tryz.func16 (by kernel_rfl) rfl _ Tryz.ntmps16 rfl [] (by decide +kernel) (by simp) (by simp) rfl (by first | rfl | simp only [go_sem]) ?_
      (have hWf := WFx.mk (ai @spD_eq <| @hl); repeat' (first | refine zS ?_ | exact zE | with_reducible apply And.intro | refine zK (hc) ?_ | refine zH he ?_ | refine zH e2 ?_ | with_reducible exact zB0 | with_reducible refine zB fun hb => ?_ | exact zC | refine zT ?_ | fail))
    exact hh.mono fun r _ e => by subst e; simp only [frA, frzL, List.map_cons, List.map_nil, frz, MIns.frzS, MPat.frzE]
end Go.Proofs.YtahdaknaoogpkaaGreat
